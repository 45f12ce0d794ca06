/- The builder: Imply, Only, Chars where nothing is foster-parented. -/
import Derived.Test.YtgaebaokcjhcdaaGreatDoorM08
import Derived.BigQuiet

set_option linter.unusedVariables false
set_option linter.unusedSimpArgs false
namespace Go.Proofs.YtgaebaokcjhcdaaGreatDoor
open Go.RowKit Lz
variable {w w' : World} {F : Nat → Prop} {b a st l : Nat} {s : St}

set_option maxHeartbeats 1000000 in
theorem bImply_c (h : BR w F b a st l s) (hf : s.foster = false) (name : Str) (hroom : s.nodes.length + 2 ≤ 1048576) (htm : (name == n_template) = false) :
    Calls Tryz.prog 38 #[.pointer (some ⟨b, 0, none⟩), .string name] w fun e w' => e = .returned (.int .i64 s.insI) ∧ Mut F w w' ∧ BR w' (grow F w w') b a st l (s.imply name) := by
  have hI := bInsert_c h hf (St.impTok name) none 0 0 (fun _ => False) (.inl ⟨rfl, rfl⟩) (Nat.zero_le _) 0 hroom (by unfold isTemplate St.tagNd St.impTok; simp [htm])
  have HI := Lib.hid hI
  clear hI hf hroom htm
  go_enter Tryz.func38, Tryz.ntmps38
  go_wp2_with (go_at_call 53; refine HI.out.mono ?_; rintro e w' ⟨rfl, hm, hr⟩)
  go_ret
  exact ⟨rfl, hm, hr⟩

theorem pop_eq (s : St) : { s with stk := s.pop.stk } = s.pop := rfl
set_option maxRecDepth 100000 in
set_option maxHeartbeats 2000000 in
theorem bOnly_c (h : BR w F b a st l s) (hf : s.foster = false) (t : Tok) (A : Option Addr) (m c : Nat) (G : Nat → Prop) (hA : AttrRow w G (.slice A m c) t.attrs) (hal : t.attrs.length ≤ 1048576) (hroom : s.nodes.length + 2 ≤ 1048576) (htm : isTemplate (St.tagNd t 0) = false) :
    Calls Tryz.prog 152 #[.pointer (some ⟨b, 0, none⟩), .agg #[.int .i64 t.kind, .string t.name, .string t.text, .slice A m c, .bool t.dup, .bool t.self, .bool t.quirks, .int .i64 t.frm, .int .i64 t.to]] w
      fun e w' => e = .returned (.int .i64 s.onlyI) ∧ Mut F w w' ∧ BR w' (grow F w w') b a st l (s.only t) := by
  have hb := bel_alloc w (.cells #[.int .i64 t.kind, .string t.name, .string t.text, .slice A m c, .bool t.dup, .bool t.self, .bool t.quirks, .int .i64 t.frm, .int .i64 t.to] 24 (0, 0))
  have hI := bInsert_c (h.bel hb) hf t A m c G (hA.bel hb) hal 0 hroom htm
  have h0 := h.ofBel hb
  have HI := Lib.hid hI; have H0 := Lib.hid h0; have HB := Lib.hid hb
  clear hI hf hroom htm hA h0 hb
  have e1 : s.onlyI = s.insI := rfl
  have e2 : s.only t = if s.insI < 0 then s.ins t 0 else (s.ins t 0).pop := rfl
  have hc : s.insI < 0 ∨ 0 ≤ s.insI := by omega
  rw [e1, e2]
  clear e1 e2
  generalize s.ins t 0 = s2 at *
  generalize s.insI = i at *
  rcases hc with hc | hc
  · rw [if_pos hc]
    go_enter Tryz.func152, Tryz.ntmps152
    go_wp2_with (go_at_call 53; refine HI.out.mono ?_; rintro e w2 ⟨rfl, hm, hr⟩)
    go_ret
    have h3 := BR.trans (s1 := s) H0.out.1 ⟨hm.mono fun k hk => .inl hk, hr.mono_ (fun k hk => hk.elim (fun h => .inl (.inl h)) .inr)⟩
    exact ⟨rfl, h3⟩
  · rw [if_neg (by omega)]
    go_enter Tryz.func152, Tryz.ntmps152
    go_wp2_with (first | (go_at_call 53; refine HI.out.mono ?_; rintro e w2 ⟨rfl, hm, hr⟩; have h3 := BR.trans (s1 := s) H0.out.1 ⟨hm.mono fun k hk => .inl hk, hr.mono_ (fun k hk => hk.elim (fun h => .inl (.inl h)) .inr)⟩; clear hm hr; obtain ⟨Fa3, Fs3, Fl3, Fb3, vm3, vk3, hp3, hF3⟩ := h3.2; have d1 : w2.cell? ⟨b, 1, none⟩ = some (.pointer (some ⟨st, 0, none⟩)) := hp3.c 1) | (go_at_call 41; refine (sPop_c hp3.stack).mono ?_; rintro e w4 ⟨rfl, hm4, hr4⟩; have h4 := BR.trans (s1 := s) h3.1 (BR.ofStack hp3 hF3 hm4 hr4); clear hm4 hr4))
    go_ret
    exact ⟨rfl, h4⟩

set_option maxRecDepth 100000 in
set_option maxHeartbeats 2000000 in
theorem bChars_c (h : BR w F b a st l s) (hf : s.foster = false) (x : Str) (hroom : s.nodes.length + 2 ≤ 1048576) (htl : ∀ i, (nodeAt s.nodes i).text.size + x.size ≤ 9223372036854775807) :
    Calls Tryz.prog 25 #[.pointer (some ⟨b, 0, none⟩), .string x] w fun e w' => e = .returned (.tuple #[]) ∧ Mut F w w' ∧ BR w' (grow F w w') b a st l (s.chars x) := by
  have h' := h
  obtain ⟨Fa, Fs, Fl, Fb, vm, vk, hp, hF⟩ := h
  have c0 : w.cell? ⟨b, 0, none⟩ = some (.pointer (some ⟨a, 0, none⟩)) := hp.c 0
  have hbl : b < w.heap.size := hp.blt b hp.Fbb
  have hP := bPlace_c h' hf s.target
  have hT := bTarget_c h'
  have hX := fun W (hW : Bel w W) p => aText_c W Fa a s.nodes p x (hp.bel hW).arena hroom htl
  have e : (s.place s.target).2 = -1 → s.chars x = if 0 < (s.place s.target).1 then { s with nodes := textN s.nodes (s.place s.target).1 (-1) x } else s := by
    intro e
    unfold St.chars
    simp only [e]
  have HP := Lib.hid hP; have HX := Lib.hid hX; have HV := Lib.hid hp; have HE := Lib.hid e; have HT := Lib.hid hT; have HF := Lib.hid hF
  clear hP hX hp e hT htl hF
  generalize s.place s.target = pr at *
  generalize s.target = tg at *
  have hc : 0 < pr.1 ∨ ¬ 0 < pr.1 := by omega
  rcases hc with hc | hc
  · go_enter Tryz.func25, Tryz.ntmps25
    go_wp2_with (first | (go_at_call 44; refine (bNone_c h').mono ?_; rintro e w' ⟨rfl, rfl⟩) | (go_at_call 57; refine HT.out.mono ?_; rintro e w' ⟨rfl, rfl⟩) | (go_at_call 56; refine HP.out.mono ?_; rintro e w1 ⟨rfl, hpr, hb1⟩; have HPR := Lib.hid hpr; clear hpr; have c0' := (hb1.cell (p := ⟨b, 0, none⟩) hbl).trans c0) | (go_at_call 58; refine (HX.out _ hb1 _).mono ?_; rintro e w2 ⟨rfl, hm, hr⟩))
    go_end0
    have h2 := BR.ofArena (HV.out.bel hb1) (fun k hk => .inl (HF.out k hk)) (F := grow F w w1) hm hr
    have h3 := BR.trans (Mut.of_bel hb1) h2 (s1 := s)
    exact ⟨rfl, h3.1, by rw [HE.out HPR.out, if_pos hc]; exact h3.2⟩
  · go_enter Tryz.func25, Tryz.ntmps25
    go_wp2_with (first | (go_at_call 44; refine (bNone_c h').mono ?_; rintro e w' ⟨rfl, rfl⟩) | (go_at_call 57; refine HT.out.mono ?_; rintro e w' ⟨rfl, rfl⟩) | (go_at_call 56; refine HP.out.mono ?_; rintro e w1 ⟨rfl, hpr, hb1⟩; have HPR := Lib.hid hpr; clear hpr))
    go_end0
    have h3 := h'.ofBel hb1
    exact ⟨rfl, h3.1, by rw [HE.out HPR.out, if_neg (by omega)]; exact h3.2⟩
end Go.Proofs.YtgaebaokcjhcdaaGreatDoor

/- The builder: CloseP. -/
set_option linter.unusedVariables false
set_option linter.unusedSimpArgs false
namespace Go.Proofs.YtgaebaokcjhcdaaGreatDoor
open Go.RowKit Lz
variable {w w' : World} {F : Nat → Prop} {b a st l : Nat} {s : St}

theorem implied_eq (s : St) (n : Str) : { s with stk := (s.implied n).stk } = s.implied n := rfl
theorem until_eq (s : St) (ns : List Str) : { s with stk := (s.until_ ns).stk } = s.until_ ns := by
  unfold St.until_
  split <;> rfl
set_option maxRecDepth 100000 in
set_option maxHeartbeats 2000000 in
theorem bCloseP_c (h : BR w F b a st l s) (hN : ∀ k, (s.el k).name.size < 1000000) :
    Calls Tryz.prog 139 #[.pointer (some ⟨b, 0, none⟩)] w fun e w' => e = .returned (.tuple #[]) ∧ Mut F w w' ∧ BR w' (grow F w w') b a st l s.closeP := by
  have h' := h
  obtain ⟨Fa, Fs, Fl, Fb, vm, vk, hp, hF⟩ := h
  have c1 : w.cell? ⟨b, 1, none⟩ = some (.pointer (some ⟨st, 0, none⟩)) := hp.c 1
  have hbl : b < w.heap.size := hp.blt b hp.Fbb
  have hH := fun W (hW : Bel w W) v hv => sHas_c (hp.bel hW).stack (hp.bel hW).glob hN 2 v [n_p] hv
  have hI := fun W (hW : Bel w W) => sImplied_c (hp.bel hW).stack (hp.bel hW).glob (fun k hk => hp.low k (.inr (.inl hk))) hN n_p
  have e : s.closeP = if s.has 2 [n_p] then (s.implied n_p).until_ [n_p] else s := rfl
  rw [e]
  have HV := Lib.hid hp; have HF := Lib.hid hF; have HI := Lib.hid hI
  clear hp hI e hN hF
  cases hb : s.has 2 [n_p]
  · rw [hb] at hH
    have HH := Lib.hid hH
    clear hH hb
    go_enter Tryz.func139, Tryz.ntmps139
    go_wp2_with (first | (go_at_call 44; refine (bNone_c h').mono ?_; rintro e w' ⟨rfl, rfl⟩) | (go_at_call 145; refine (HH.out _ (bel_alloc _ _) _ (strRow_lit [n_p] (heap_alloc_new w _) (by decide))).mono ?_; rintro e w1 ⟨rfl, hb1⟩))
    go_end0
    exact ⟨rfl, h'.ofBel (bel_tr (bel_alloc w (.cells #[.string n_p] 9 (0, 0))) hb1)⟩
  · rw [hb] at hH
    have HH := Lib.hid hH
    clear hH hb
    go_enter Tryz.func139, Tryz.ntmps139
    go_wp2_with (first | (go_at_call 44; refine (bNone_c h').mono ?_; rintro e w' ⟨rfl, rfl⟩) | (go_at_call 145; refine (HH.out _ (bel_alloc _ _) _ (strRow_lit [n_p] (heap_alloc_new w _) (by decide))).mono ?_; rintro e w1 ⟨rfl, hb1⟩; have hbx := bel_tr (bel_alloc w _) hb1; have c1' := (hbx.cell (p := ⟨b, 1, none⟩) hbl).trans c1) | (go_at_call 104; refine (HI.out _ hbx).mono ?_; rintro e w2 ⟨rfl, hm2, hr2⟩; have h2 := BR.trans (s1 := s) (Mut.of_bel hbx) (BR.ofStack (HV.out.bel hbx) (F := grow F w w1) (fun k hk => .inl (HF.out k hk)) hm2 hr2); clear hm2 hr2; rw [implied_eq] at h2; obtain ⟨Fa3, Fs3, Fl3, Fb3, vm3, vk3, hp3, hF3⟩ := h2.2; have d1 : w2.cell? ⟨b, 1, none⟩ = some (.pointer (some ⟨st, 0, none⟩)) := hp3.c 1; have hbl3 : b < w2.heap.size := hp3.blt b hp3.Fbb) | (go_at_call 131; refine (sUntil_c (hp3.bel (bel_alloc w2 _)).stack _ [n_p] (strRow_lit [n_p] (heap_alloc_new w2 _) (by decide))).mono ?_; rintro e w3 ⟨rfl, hm3, hr3⟩))
    go_end0
    have hal := bel_alloc w2 (.cells #[.string n_p] 9 (0, 0))
    have h3 := BR.trans (s1 := s) h2.1 (BR.trans (s1 := s) (Mut.of_bel (F := grow F w w2) hal) (BR.ofStack (hp3.bel hal) (F := grow (grow F w w2) w2 (w2.alloc (.cells #[.string n_p] 9 (0, 0)))) (fun k hk => .inl (hF3 k hk)) hm3 hr3))
    rw [until_eq] at h3
    exact ⟨rfl, h3⟩
end Go.Proofs.YtgaebaokcjhcdaaGreatDoor

/- The list of formatting elements: At. -/
set_option linter.unusedVariables false
set_option linter.unusedSimpArgs false
namespace Go.Proofs.YtgaebaokcjhcdaaGreatDoor
open Go.RowKit Lz
variable {w : World} {F Fa : Nat → Prop} {st a : Nat} {s : St}

set_option maxRecDepth 100000 in
set_option maxHeartbeats 1000000 in
theorem fAt_c (h : ListRep w F st a s.fmts) (k : Int) :
    Calls Tryz.prog 52 #[.pointer (some ⟨st, 0, none⟩), .int .i64 k] w fun e w' => e = .returned (.tuple #[.int .i64 (s.fat k), .bool (decide (0 ≤ k ∧ k < (s.fmts.length : Int)) && (s.fat k == -1))]) ∧ Bel w w' := by
  obtain ⟨A, cap, c0, c1, _, hs, hr⟩ := h.form
  by_cases k0 : k < 0
  · have e : s.fat k = -1 ∧ decide (0 ≤ k ∧ k < (s.fmts.length : Int)) = false := ⟨by unfold St.fat; simp [k0], by simp; omega⟩
    rw [e.1, e.2]; clear e
    go_enter Tryz.func52, Tryz.ntmps52
    go_wp2
    refine bodyPost_ret (v := .tuple #[.int .i64 (-1), .bool false]) (by simp [results, Tryz.results52, go_sem]) rfl ⟨rfl, Below.refl _ _⟩
  · by_cases k1 : (s.fmts.length : Int) ≤ k
    · have e : s.fat k = -1 ∧ decide (0 ≤ k ∧ k < (s.fmts.length : Int)) = false := ⟨by unfold St.fat; simp [k1], by simp; omega⟩
      rw [e.1, e.2]; clear e
      go_enter Tryz.func52, Tryz.ntmps52
      go_wp2_with (go_at_call 51; refine (fLen_c h).mono ?_; rintro e w' ⟨rfl, rfl⟩)
      refine bodyPost_ret (v := .tuple #[.int .i64 (-1), .bool false]) (by simp [results, Tryz.results52, go_sem]) rfl ⟨rfl, Below.refl _ _⟩
    · have e : s.fat k = s.fmts.getD k.toNat 0 ∧ decide (0 ≤ k ∧ k < (s.fmts.length : Int)) = true := ⟨by unfold St.fat; simp [k0, k1], by simp; omega⟩
      rw [e.1, e.2]; clear e
      obtain ⟨b, rfl, hc⟩ := hr (by omega)
      have d0 := hc k.toNat (by omega)
      clear hc hr
      generalize s.fmts.getD k.toNat 0 = z at *
      have k2 : 0 ≤ k := by omega
      have k3 : k < (s.fmts.length : Int) := by omega
      go_enter Tryz.func52, Tryz.ntmps52
      go_wp2_with (go_at_call 51; refine (fLen_c h).mono ?_; rintro e w' ⟨rfl, rfl⟩)
      go_quiet (fail)
      go_wp2
      refine bodyPost_ret (v := .tuple #[.int .i64 z, .bool (z == -1)]) (by simp [results, Tryz.results52, go_sem]) rfl ⟨by simp, bel_drN (Below.refl _ _)⟩
end Go.Proofs.YtgaebaokcjhcdaaGreatDoor

/- The builder: lost. -/
set_option linter.unusedVariables false
set_option linter.unusedSimpArgs false
namespace Go.Proofs.YtgaebaokcjhcdaaGreatDoor
open Go.RowKit Lz
variable {w w' : World} {F : Nat → Prop} {b a st l : Nat} {s : St}

set_option maxRecDepth 100000 in
set_option maxHeartbeats 1000000 in
theorem bLost_c (h : BR w F b a st l s) :
    Calls Tryz.prog 50 #[.pointer (some ⟨b, 0, none⟩)] w fun e w' => e = .returned (.int .i64 s.lost) ∧ Bel w w' := by
  obtain ⟨Fa, Fs, Fl, Fb, vm, vk, hp, hF⟩ := h
  have c1 : w.cell? ⟨b, 1, none⟩ = some (.pointer (some ⟨st, 0, none⟩)) := hp.c 1
  have c2 : w.cell? ⟨b, 2, none⟩ = some (.pointer (some ⟨l, 0, none⟩)) := hp.c 2
  have hbl : b < w.heap.size := hp.blt b hp.Fbb
  have hs := hp.list.small
  have hA := fun W (hW : Bel w W) k => fAt_c (hp.bel hW).list k
  have hI := fun W (hW : Bel w W) i => sIndex_c (hp.bel hW).stack i
  have HL := Lib.hid (fLen_c hp.list); have HA := Lib.hid hA; have HI := Lib.hid hI
  clear hA hI hp
  have hdef : s.lost = s.lostFrom s.fmts.length := rfl
  rw [hdef]
  clear hdef
  go_enter Tryz.func50, Tryz.ntmps50
  go_wp2_with (go_at_call 51; refine HL.out.mono ?_; rintro e w' ⟨rfl, rfl⟩)
  go_loopw [3] (fun x wr => ∃ m : Nat, m ≤ s.fmts.length ∧ x = .int .i64 m ∧ s.lostFrom m = s.lostFrom s.fmts.length ∧ Bel w wr) (fun x wr => (intOf x).toNat)
  case atStart => exact ⟨s.fmts.length, Nat.le_refl _, rfl, rfl, Below.refl _ _⟩
  case round =>
    obtain ⟨m, hm, rfl, heq, hb⟩ := hrel
    have c1' := (hb.cell (p := ⟨b, 1, none⟩) hbl).trans c1
    have c2' := (hb.cell (p := ⟨b, 2, none⟩) hbl).trans c2
    cases m with
    | zero =>
      have HE := Lib.hid heq; clear heq
      go_wp2
      go_ret
      exact ⟨ret_int (by rw [← HE.out]; rfl), hb⟩
    | succ m =>
      have wn : IntKind.i64.wrap (((m + 1 : Nat) : Int) - 1) = (m : Int) := by rw [show ((m + 1 : Nat) : Int) - 1 = (m : Int) by omega]; exact IntWalk.i64_in _ (by omega)
      have wn2 : IntKind.i64.wrap ((m : Int) + 1 - 1) = (m : Int) := by rw [show (m : Int) + 1 - 1 = (m : Int) by omega]; exact IntWalk.i64_in _ (by omega)
      have hAt := HA.out wr hb m
      have e1 : s.fat (m : Int) = s.fmts.getD m 0 := by
        unfold St.fat
        rw [if_neg (by simp; omega)]
        rfl
      have e2 : decide (0 ≤ (m : Int) ∧ (m : Int) < (s.fmts.length : Int)) = true := by simp; omega
      rw [e1, e2, Bool.true_and] at hAt
      have hdef : s.lostFrom (m + 1) = if s.fmts.getD m 0 == -1 || decide (0 ≤ s.index (s.fmts.getD m 0)) then m + 1 else s.lostFrom m := rfl
      rw [hdef] at heq
      have hIx := fun W hW => HI.out W hW (s.fmts.getD m 0)
      clear e1 e2 hdef
      generalize s.fmts.getD m 0 = z at *
      generalize s.index z = ix at *
      have HIx := Lib.hid hIx
      clear hIx
      cases h1 : z == -1
      · rw [h1] at hAt heq
        have HAt := Lib.hid hAt
        clear hAt h1
        cases h2 : decide (0 ≤ ix)
        · rw [h2] at heq
          have HE := Lib.hid heq
          clear heq
          have h3 : ¬ 0 ≤ ix := by simpa using h2
          go_wp2_with (first | (go_at_call 52; refine HAt.out.mono ?_; rintro e w1 ⟨rfl, hb1⟩; have hb2 := bel_tr hb hb1; have c1'' := (hb2.cell (p := ⟨b, 1, none⟩) hbl).trans c1) | (go_at_call 115; refine (HIx.out _ hb2).mono ?_; rintro e w' ⟨rfl, rfl⟩))
          go_roundw
          case rel => exact ⟨m, by omega, rfl, HE.out, hb2⟩
          case measure => simp [intOf]
        · rw [h2] at heq
          have HE := Lib.hid heq
          clear heq
          have h3 : 0 ≤ ix := by simpa using h2
          go_wp2_with (first | (go_at_call 52; refine HAt.out.mono ?_; rintro e w1 ⟨rfl, hb1⟩; have hb2 := bel_tr hb hb1; have c1'' := (hb2.cell (p := ⟨b, 1, none⟩) hbl).trans c1) | (go_at_call 115; refine (HIx.out _ hb2).mono ?_; rintro e w' ⟨rfl, rfl⟩))
          go_ret
          exact ⟨ret_int (by rw [← HE.out]; simp), hb2⟩
      · rw [h1] at hAt heq
        have HAt := Lib.hid hAt; have HE := Lib.hid heq
        clear hAt h1 heq
        go_wp2_with (go_at_call 52; refine HAt.out.mono ?_; rintro e w1 ⟨rfl, hb1⟩; have hb2 := bel_tr hb hb1; have c1'' := (hb2.cell (p := ⟨b, 1, none⟩) hbl).trans c1)
        go_ret
        exact ⟨ret_int (by rw [← HE.out]; simp), hb2⟩
end Go.Proofs.YtgaebaokcjhcdaaGreatDoor

/- The builder: Rebuild where nothing is lost; New. -/
set_option linter.unusedVariables false
set_option linter.unusedSimpArgs false
namespace Go.Proofs.YtgaebaokcjhcdaaGreatDoor
open Go.RowKit Lz
variable {w w' : World} {F : Nat → Prop} {b a st l : Nat} {s : St}

theorem rebuild_none {s : St} (hl : s.lost = s.fmts.length) : s.rebuild = s := by
  unfold St.rebuild
  rw [hl, Nat.sub_self]
  rfl
set_option maxRecDepth 100000 in
set_option maxHeartbeats 1000000 in
theorem bRebuild_none (h : BR w F b a st l s) (hl : s.lost = s.fmts.length) :
    Calls Tryz.prog 24 #[.pointer (some ⟨b, 0, none⟩)] w fun e w' => e = .returned (.tuple #[]) ∧ Mut F w w' ∧ BR w' (grow F w w') b a st l s.rebuild := by
  rw [rebuild_none hl]
  have h' := h
  have hL := bLost_c h
  rw [hl] at hL
  obtain ⟨Fa, Fs, Fl, Fb, vm, vk, hp, hF⟩ := h
  have c2 : w.cell? ⟨b, 2, none⟩ = some (.pointer (some ⟨l, 0, none⟩)) := hp.c 2
  have hbl : b < w.heap.size := hp.blt b hp.Fbb
  have hLe := fun W (hW : Bel w W) => fLen_c (hp.bel hW).list
  have HL := Lib.hid hL; have HLe := Lib.hid hLe
  clear hL hLe hp hl
  have hd : decide (s.fmts.length < s.fmts.length) = false := by simp
  go_enter Tryz.func24, Tryz.ntmps24
  go_wp2_with (first | (go_at_call 44; refine (bNone_c h').mono ?_; rintro e w' ⟨rfl, rfl⟩) | (go_at_call 50; refine HL.out.mono ?_; rintro e w1 ⟨rfl, hb1⟩; have c2' := (hb1.cell (p := ⟨b, 2, none⟩) hbl).trans c2))
  go_loopw [2] (fun x wr => x = .int .i64 s.fmts.length ∧ wr = w1) (fun _ _ => 0)
  case atStart => exact ⟨rfl, rfl⟩
  case round =>
    obtain ⟨rfl, rfl⟩ := hrel
    go_wp2_with (go_at_call 51; refine (HLe.out _ hb1).mono ?_; rintro e w' ⟨rfl, rfl⟩)
    go_end0
    exact ⟨rfl, h'.ofBel hb1⟩
end Go.Proofs.YtgaebaokcjhcdaaGreatDoor
