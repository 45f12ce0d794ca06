/- slices.Insert of one element, at the end. -/
import Derived.Test.YtgaebaokcjhcdaaGreatDoorM04
import Derived.Test.YtgaebaokcjhcdaaGreatDoorShelf
import Derived.RangeFuncNested
import Derived.RangeFuncBound
import Derived.RangeFuncCalls
import Derived.RangeFuncLeaves
import Derived.Shelf.Abstract
import Derived.Shelf.RegionOpen
import Derived.OwnWalkIn
import Derived.TacticsInMore
import Derived.LoopNIn
import Derived.LoopIn

set_option linter.unusedVariables false
set_option linter.unusedSimpArgs false
namespace Go.Proofs.YtgaebaokcjhcdaaGreatDoor
open Go.RowKit Lz

theorem Tryz.infoOpen : (Tryz.prog.info? 116).map (fun i => (i.zero, i.size, i.bytes)) = some (some (.agg #[.int .i64 0, .int .i64 0, .string ⟨#[]⟩]), 3, 32) := by kernel_rfl
def opCells (o : OpEl) : List Value := [.int .i64 o.node, .int .i64 o.space, .string o.name]
/-- The footprint of a row, and what has come. -/
def ownOr (v : Value) (w : World) : Nat → Prop := fun k => v.ownBlock = some k ∨ w.heap.size ≤ k
theorem OpRow.blk_lt {w : World} {F : Nat → Prop} {v : Value} {xs : List OpEl} (h : OpRow w F v xs) : ∀ k, v.ownBlock = some k → k < w.heap.size := by
  intro k hk
  rcases h with ⟨rfl, _⟩ | ⟨g, c, cur, rfl, hF, hb, _⟩
  · simp [Value.ownBlock] at hk
  · have : g = k := by simpa [Value.ownBlock] using hk
    subst this
    exact (Array.getElem?_eq_some_iff.1 hb).1
theorem OpRow.own {w : World} {F : Nat → Prop} {v : Value} {xs : List OpEl} (h : OpRow w F v xs) : ∀ k, v.ownBlock = some k → F k := by
  intro k hk
  rcases h with ⟨rfl, _⟩ | ⟨g, c, cur, rfl, hF, hb, _⟩
  · simp [Value.ownBlock] at hk
  · have : g = k := by simpa [Value.ownBlock] using hk
    subst this; exact hF
theorem OpRow.bel {w w' : World} {F : Nat → Prop} {v : Value} {xs : List OpEl} (h : OpRow w F v xs) (hb : Bel w w') : OpRow w' F v xs := h.keep (fun k _ hk => hb.block k (h.blk_lt k hk)) fun _ h => h
theorem OpRow.app {w w' : World} {F : Nat → Prop} {v : Value} {l : List OpEl} {o : OpEl} {pre : Nat → Option Value} {g' cap' : Nat} {cur' : Array Value} (h : OpRow w F v l)
    (hA : AppR w w' v.ownBlock 116 3 l.length 1 pre (opCells o) g' cap' cur') (hpre : ∀ i, i < l.length → pre (i * 3) = some (.int .i64 (l.getD i {}).node) ∧ pre (i * 3 + 1) = some (.int .i64 (l.getD i {}).space) ∧ pre (i * 3 + 2) = some (.string (l.getD i {}).name)) :
    OpRow w' (ownOr v w) (.slice (some ⟨g', 0, none⟩) (l.length + 1) cap') (l ++ [o]) := by
  have hl : (l ++ [o]).length = l.length + 1 := by simp
  refine .inr ⟨g', cap', cur', by rw [hl], hA.where_, hA.row, by rw [hl]; exact hA.le, hA.capm, hA.fit, fun i hi => ?_⟩
  rw [hl] at hi
  by_cases hi' : i < l.length
  · have hg : (l ++ [o]).getD i {} = l.getD i {} := by simp only [List.getD_eq_getElem?_getD]; rw [List.getElem?_append_left hi']
    rw [hg, hA.pre _ (by omega), hA.pre _ (by omega), hA.pre _ (by omega)]
    exact hpre i hi'
  · have : i = l.length := by omega
    subst this
    have hg : (l ++ [o]).getD l.length {} = o := by simp [List.getD_eq_getElem?_getD]
    have n0 := hA.new 0 (by simp [opCells])
    have n1 := hA.new 1 (by simp [opCells])
    have n2 := hA.new 2 (by simp [opCells])
    rw [hg]
    exact ⟨n0, n1, n2⟩

set_option maxRecDepth 100000 in
theorem insOp_end (w : World) (F : Nat → Prop) (v : Value) (l : List OpEl) (o : OpEl) (h : OpRow w F v l) (hl : l.length ≤ 512) (vb c : Nat)
    (hv0 : w.cell? ⟨vb, 0, none⟩ = some (.int .i64 o.node)) (hv1 : w.cell? ⟨vb, 1, none⟩ = some (.int .i64 o.space)) (hv2 : w.cell? ⟨vb, 2, none⟩ = some (.string o.name)) :
    Calls Tryz.prog 200 #[v, .int .i64 l.length, .slice (some ⟨vb, 0, none⟩) 1 c] w fun e w' => ∃ g' cap', e = .returned (.slice (some ⟨g', 0, none⟩) (l.length + 1) cap') ∧ OpRow w' (ownOr v w) (.slice (some ⟨g', 0, none⟩) (l.length + 1) cap') (l ++ [o]) ∧ Mut (fun k => v.ownBlock = some k) w w' := by
  obtain ⟨i0, hi, hz0, hz1, hz2⟩ := info_parts Tryz.infoOpen
  have h' := h
  have rn1 : (opCells o).length = 1 * 3 := rfl
  have rn2 : ∀ j u, (opCells o)[j]? = some u → w.cell? ((⟨vb, 0, none⟩ : Addr).add j) = some u := by
    intro j u hj
    have hjl : j < 3 := (List.getElem?_eq_some_iff.1 hj).1
    have e : (⟨vb, 0, none⟩ : Addr).add j = ⟨vb, j, none⟩ := by unfold Addr.add; split <;> simp_all
    rw [e]
    rcases (show j = 0 ∨ j = 1 ∨ j = 2 by omega) with rfl | rfl | rfl
    · rw [hv0]; exact hj
    · rw [hv1]; exact hj
    · rw [hv2]; exact hj
  have rn3 : ∀ u ∈ opCells o, u.oneCell' = true := by simp [opCells, Value.oneCell']
  rcases h with ⟨rfl, rfl⟩ | ⟨g, cap, cur, rfl, hF, hb, r1, r2, r3, r4⟩
  · have rm : 1 ≤ maxLen := by decide
    go_enter Tryz.func200, Tryz.ntmps200
    go_wp2_with (at_builtin; refine wpList_append_rnil rfl _ _ 80 rfl 116 i0 (.agg #[.int .i64 0, .int .i64 0, .string ⟨#[]⟩]) 3 32 Tryz.underlying80 hi hz0 hz1 hz2 rfl (by decide) rfl ⟨vb, 0, none⟩ 1 c (opCells o) rfl rn1 rn2 rn3 (by decide) rm (by decide) ?_; intro g' cap' cur' w2 hApp)
    go_wp2
    go_ret
    exact ⟨g', cap', rfl, h'.app hApp (fun i hi => by simp at hi), hApp.mut2 (Below.refl _ _) (fun k e => e)⟩
  · have R4 := Lib.hid r4
    have le : (l.length : Int) ≤ (cap : Int) := by omega
    have rn4 : l.length + 1 ≤ maxLen := by unfold maxLen; omega
    have rn5 : (l.length + 1) * 32 ≤ 140737488355328 := by omega
    have HN4 := Lib.hid rn4; have HN5 := Lib.hid rn5; have HR2 := Lib.hid r2
    clear r4 rn4 rn5 r2
    go_enter Tryz.func200, Tryz.ntmps200
    go_wp2_with (at_builtin; refine wpList_append_r rfl _ _ 80 rfl 116 i0 (.agg #[.int .i64 0, .int .i64 0, .string ⟨#[]⟩]) 3 32 Tryz.underlying80 hi hz0 hz1 hz2 rfl (by decide) g l.length cap cur rfl hb HR2.out r3 r1 ⟨vb, 0, none⟩ 1 c (opCells o) rfl rn1 rn2 rn3 HN4.out HN5.out ?_; intro g' cap' cur' w2 hApp)
    all_goals (
     try go_wp2
     go_ret
     exact ⟨g', cap', rfl, h'.app hApp R4.out, hApp.mut2 (Below.refl _ _) (fun k e => e)⟩)
end Go.Proofs.YtgaebaokcjhcdaaGreatDoor

/- The stack: Insert at the end, Push. -/
set_option linter.unusedVariables false
set_option linter.unusedSimpArgs false
namespace Go.Proofs.YtgaebaokcjhcdaaGreatDoor
open Go.RowKit Lz
variable {w : World} {F Fa : Nat → Prop} {st a : Nat} {s : St}

theorem OpRow.keep2 {w w' : World} {F G : Nat → Prop} {v : Value} {l : List OpEl} (h : OpRow w F v l) (hk : ∀ k, F k → v.ownBlock = some k → w'.heap[k]? = w.heap[k]?) (hG : ∀ k, F k → v.ownBlock = some k → G k) : OpRow w' G v l := by
  rcases h with h | ⟨g, cap, cur, rfl, hF, hb, r⟩
  · exact .inl h
  · exact .inr ⟨g, cap, cur, rfl, hG g hF rfl, (hk g hF rfl).trans hb, r⟩

/-- A row was changed, and is laid into the stack's cell. -/
theorem StackV.put {w W w2 : World} {F : Nat → Prop} {st a : Nat} {v v' : Value} {l l' : List OpEl} (h : StackV w F st a v l) (hb : Bel w W) (hm : Mut (fun k => v.ownBlock = some k) W w2) (hr : OpRow w2 (ownOr v W) v' l') (hl : l'.length ≤ 512) :
    Mut F w (w2.setCell ⟨st, 1, none⟩ v') ∧ StackRep (w2.setCell ⟨st, 1, none⟩ v') (grow F w (w2.setCell ⟨st, 1, none⟩ v')) st a l' := by
  have hown := h.row.own
  have hstl := h.lt st h.Fs
  have hne : v.ownBlock ≠ some st := by
    intro e
    rcases h.row with ⟨e2, _⟩ | ⟨g, c, cur, e2, hF, hbk, _⟩
    · rw [e2] at e; simp [Value.ownBlock] at e
    · rw [e2] at e
      have : g = st := by simpa [Value.ownBlock] using e
      subst this
      exact blk_ne hbk h.blk (by decide) rfl
  have e1 : w2.heap[st]? = w.heap[st]? := (hm.block st (Nat.lt_of_lt_of_le hstl hb.size) hne).trans (hb.block st hstl)
  have hmw : Mut F w w2 := (Mut.of_bel hb).trans (hm.mono fun k hk => .inl (hown k hk))
  refine ⟨hmw.setCell (.inl h.Fs) _, ?_⟩
  rw [grow_set]
  refine ⟨v', ?_, .inl h.Fs, ?_, fun k hk => ?_, hl⟩
  · rw [heap_setCell_same _ _ _ _ _ _ (e1.trans h.blk)]; rfl
  · refine hr.keep2 (fun k hk hob => Below.heap_setCell _ _ _ _ ?_) (fun k hk hob => ?_)
    · rcases hk with hk | hk
      · intro e; exact hne (by rw [hk]; exact congrArg some e)
      · intro e; have e : k = st := e; have := hb.size; omega
    · rcases hk with hk | hk
      · exact .inl (hown k hk)
      · refine .inr ⟨Nat.le_trans hb.size hk, hr.blk_lt k hob⟩
  · rcases hk with hk | hk
    · exact Nat.lt_of_lt_of_le (h.lt k hk) (by simpa using hmw.size)
    · simpa using hk.2
set_option maxHeartbeats 2000000 in
set_option maxRecDepth 100000 in
theorem sInsert_end (h : StackRep w F st a s.stk) (hA : ArenaRep w Fa a s.nodes) (i : Int) :
    Calls Tryz.prog 167 #[.pointer (some ⟨st, 0, none⟩), .int .i64 s.stk.length, .int .i64 i] w fun e w' =>
      e = .returned (.int .i64 (s.pushE i)) ∧ Mut F w w' ∧ StackRep w' (grow F w w') st a (s.push i).stk := by
  have hstl : st < w.heap.size := by obtain ⟨v, h⟩ := h; exact h.lt st h.Fs
  have hE := sElement_c h hA i
  obtain ⟨v, hv⟩ := h
  obtain ⟨A, cap, rfl, _⟩ := hv.row.form
  have c1 : w.cell? ⟨st, 1, none⟩ = some (.slice A s.stk.length cap) := by rw [blk_cell hv.blk]; rfl
  have f1 : w.frozen? ⟨st, 1, none⟩ = false := blk_frozen hv.blk 1
  have hs := hv.small
  cases hk : (s.node i).kind == 3
  · have hfin : s.pushE i = 2 ∧ (s.push i).stk = s.stk := by
      have hk' : ¬ (s.node i).kind = 3 := by simpa using hk
      have e : s.pushE i = 2 := by unfold St.pushE St.insertE; simp [hk']
      exact ⟨e, by unfold St.push St.insert; unfold St.pushE at e; rw [e]; rfl⟩
    rw [hfin.1, hfin.2]
    rw [hk] at hE
    have HE := Lib.hid hE; have HV := Lib.hid hv
    clear hE hfin hk hv
    go_enter Tryz.func167, Tryz.ntmps167
    go_wp2_with (go_at_call 199; refine HE.out.mono ?_; rintro e w1 ⟨rfl, hb1⟩; unfold opV)
    go_ret
    have hR : StackRep w F st a s.stk := ⟨_, HV.out⟩
    have hb2 := bel_al (o := .cells #[.int .i64 0, .int .i64 0, .string n_empty] 116 (0, 0)) hb1
    exact ⟨rfl, Mut.of_bel hb2, (hR.bel hb2).keep (fun _ _ => rfl) (fun _ h => .inl h) (grow_lt hR.lt hb2.size)⟩
  · have hk' : (s.node i).kind = 3 := by simpa using hk
    rw [hk] at hE
    have wl : w.heap.size ≠ st := by omega
    by_cases h5 : (512 : Int) ≤ s.stk.length
    · have hfin : s.pushE i = 150 ∧ (s.push i).stk = s.stk := by
        have e : s.pushE i = 150 := by unfold St.pushE St.insertE; rw [if_neg (by simp [hk']), if_neg (by simp), if_pos h5]
        exact ⟨e, by unfold St.push St.insert; unfold St.pushE at e; rw [e]; rfl⟩
      rw [hfin.1, hfin.2]
      have HE := Lib.hid hE; have HV := Lib.hid hv
      clear hE hfin hk hv hk'
      go_enter Tryz.func167, Tryz.ntmps167
      go_wp2_with (go_at_call 199; refine HE.out.mono ?_; rintro e w1 ⟨rfl, hb1⟩; unfold opV; have c2 := (hb1.cell (p := ⟨st, 1, none⟩) hstl).trans c1; have z2 := Nat.lt_of_lt_of_le hstl hb1.size)
      go_ret
      have hR : StackRep w F st a s.stk := ⟨_, HV.out⟩
      have hb2 := bel_al (o := .cells #[.int .i64 (s.element i).node, .int .i64 (s.element i).space, .string (s.element i).name] 116 (0, 0)) hb1
      exact ⟨rfl, Mut.of_bel hb2, (hR.bel hb2).keep (fun _ _ => rfl) (fun _ h => .inl h) (grow_lt hR.lt hb2.size)⟩
    · have hfin : s.pushE i = 0 ∧ (s.push i).stk = s.stk ++ [s.element i] := by
        have e : s.pushE i = 0 := by unfold St.pushE St.insertE; rw [if_neg (by simp [hk']), if_neg (by simp), if_neg h5]
        exact ⟨e, by unfold St.push St.insert; unfold St.pushE at e; rw [e]; simp⟩
      rw [hfin.1, hfin.2]
      have hIns := fun W (hW : Bel w W) => insOp_end W F _ s.stk (s.element i) (hv.row.bel hW) hs
      have HE := Lib.hid hE; have HV := Lib.hid hv; have HI := Lib.hid hIns
      clear hE hfin hk hv hk' hIns
      generalize s.element i = o at *
      go_enter Tryz.func167, Tryz.ntmps167
      go_wp2_with (go_at_call 199; refine HE.out.mono ?_; rintro e w1 ⟨rfl, hb1⟩; unfold opV; have c2 := (hb1.cell (p := ⟨st, 1, none⟩) hstl).trans c1; have z2 := Nat.lt_of_lt_of_le hstl hb1.size)
      have hrow : ∀ o1 o2, ((w1.alloc o1).drew.alloc o2).heap[w1.heap.size + 1]? = some o2 := by
        intro o1 o2
        have := heap_alloc_new (w1.alloc o1).drew o2
        simpa using this
      have hstb : ∀ W w2, Bel w W → Mut (fun k => (Value.slice A s.stk.length cap).ownBlock = some k) W w2 → w2.heap[st]? = w.heap[st]? := by
        intro W w2 hb hm
        refine (hm.block st (Nat.lt_of_lt_of_le hstl hb.size) (fun e => ?_)).trans (hb.block st hstl)
        rcases HV.out.row with ⟨e2, _⟩ | ⟨g, c, cur, e2, hF, hbk, _⟩
        · rw [e2] at e; simp [Value.ownBlock] at e
        · rw [e2] at e
          have : g = st := by simpa [Value.ownBlock] using e
          subst this
          exact blk_ne hbk HV.out.blk (by decide) rfl
      have HR := Lib.hid hrow; have HS := Lib.hid hstb
      clear hrow hstb
      go_region_with (go_at_call 200; refine (HI.out _ (bel_al (bel_dr (bel_al hb1))) (w1.heap.size + 1) 1 (blk_cell (HR.out _ _) 0) (blk_cell (HR.out _ _) 1) (blk_cell (HR.out _ _) 2)).mono ?_; rintro e w2 ⟨g', cap', rfl, hr2, hm2⟩; have ht := HS.out _ _ (bel_al (bel_dr (bel_al hb1))) hm2; have d1 := (World.cell?_of_block (a := ⟨st, 1, none⟩) ht).trans c1; have e1 := (World.frozen?_of_block (a := ⟨st, 1, none⟩) ht).trans f1; clear ht)
      all_goals (
        go_wp2
        go_ret
        have hput := HV.out.put (bel_al (bel_dr (bel_al hb1))) hm2 hr2 (by simp; omega)
        exact ⟨rfl, hput.1, hput.2⟩)
theorem sPush_c (h : StackRep w F st a s.stk) (hA : ArenaRep w Fa a s.nodes) (i : Int) :
    Calls Tryz.prog 118 #[.pointer (some ⟨st, 0, none⟩), .int .i64 i] w fun e w' =>
      e = .returned (.int .i64 (s.pushE i)) ∧ Mut F w w' ∧ StackRep w' (grow F w w') st a (s.push i).stk := by
  have HI := Lib.hid (sInsert_end h hA i)
  go_enter Tryz.func118, Tryz.ntmps118
  go_wp2_with (first | (go_at_call 20; refine (sLen_c h).mono ?_; rintro e w' ⟨rfl, rfl⟩) | (go_at_call 167; refine HI.out.mono ?_; rintro e w' ⟨rfl, hm, hr⟩))
  go_ret
  exact ⟨rfl, hm, hr⟩
end Go.Proofs.YtgaebaokcjhcdaaGreatDoor

/- The stack: html, Until. -/
set_option linter.unusedVariables false
set_option linter.unusedSimpArgs false
namespace Go.Proofs.YtgaebaokcjhcdaaGreatDoor
open Go.RowKit Lz
variable {w : World} {F Fa : Nat → Prop} {st a : Nat} {s : St}

theorem openHtml_c (w : World) (o : OpEl) (v : Value) (names : List Str) (h : StrRow w v names) :
    Calls Tryz.prog 172 #[.agg #[.int .i64 o.node, .int .i64 o.space, .string o.name], v] w fun e w' => e = .returned (.bool (St.htmlEl o names)) ∧ Bel w w' := by
  have hH := fun W (hW : Bel w W) => hasStr_c W v names o.name (h.bel hW)
  have HH := Lib.hid hH; clear hH
  by_cases h0 : o.space = 0
  · have e : St.htmlEl o names = names.contains o.name := by unfold St.htmlEl; simp [h0]
    rw [e, h0]; clear e h0
    go_enter Tryz.func172, Tryz.ntmps172
    go_wp2_with (go_at_call 114; refine (HH.out _ (bel_alloc _ _)).mono ?_; rintro e w' ⟨rfl, rfl⟩)
    go_ret
    exact ⟨ret_bool (by simp), bel_alloc _ _⟩
  · have hb : (o.space == 0) = false := beq_eq_false_iff_ne.2 h0
    have e : St.htmlEl o names = false := by unfold St.htmlEl; simp [h0]
    rw [e]; clear e h0
    generalize o.space = z at *
    go_enter Tryz.func172, Tryz.ntmps172
    go_wp2
    go_ret
    exact ⟨rfl, bel_alloc _ _⟩
theorem StackV.eqv {w : World} {F : Nat → Prop} {st a n cap : Nat} {A : Option Addr} {v : Value} {l : List OpEl} (h : StackV w F st a v l) (c1 : w.cell? ⟨st, 1, none⟩ = some (.slice A n cap)) : v = .slice A n cap := by
  have e1 := blk_cell h.blk 1
  rw [c1] at e1
  simpa using e1.symm
theorem StackV.cutTo {w w1 : World} {F : Nat → Prop} {st a m cap : Nat} {A : Addr} {l : List OpEl} (h : StackV w F st a (.slice (some A) m cap) l) (n : Nat) (hn : n ≤ l.length) (hb : Bel w w1) :
    Mut F w (w1.setCell ⟨st, 1, none⟩ (.slice (some A) n cap)) ∧ StackRep (w1.setCell ⟨st, 1, none⟩ (.slice (some A) n cap)) (grow F w (w1.setCell ⟨st, 1, none⟩ (.slice (some A) n cap))) st a (l.take n) :=
  h.put hb (Mut.refl _ _) (((h.row.take n hn (fun _ e => by cases e)).bel hb).keep2 (fun _ _ _ => rfl) (fun k _ hob => .inl hob)) (by have := h.small; simp; omega)
theorem OpRow.cap_le {w : World} {F : Nat → Prop} {A : Option Addr} {n cap : Nat} {l : List OpEl} (h : OpRow w F (.slice A n cap) l) (h0 : 0 < l.length) : l.length ≤ cap := by
  rcases h with ⟨e, rfl⟩ | ⟨g, c, cur, e, hF, hb, r1, _⟩
  · simp at h0
  · injection e with _ _ e3; subst e3; exact r1
theorem sUntil_c (h : StackRep w F st a s.stk) (v : Value) (names : List Str) (hn : StrRow w v names) :
    Calls Tryz.prog 131 #[.pointer (some ⟨st, 0, none⟩), v] w fun e w' => e = .returned (.int .i64 (s.untilE names)) ∧ Mut F w w' ∧ StackRep w' (grow F w w') st a (s.until_ names).stk := by
  have h' := h
  obtain ⟨A, cap, c0, c1, f1, hs, hr⟩ := h.form
  obtain ⟨vv, hv⟩ := h'
  have ev := hv.eqv c1
  subst ev
  have wk : IntKind.i64.wrap ((s.stk.length : Int) - 1) = (s.stk.length : Int) - 1 := IntWalk.i64_in _ (by omega)
  have hstl : st < w.heap.size := hv.lt st hv.Fs
  have HR := Lib.hid hr; have HV := Lib.hid hv; clear hr hv
  go_enter Tryz.func131, Tryz.ntmps131
  go_wp2_with (go_at_call 171; refine (sNone_c h).mono ?_; rintro e w' ⟨rfl, rfl⟩)
  go_loopw [5] (fun x wr => ∃ n : Nat, n ≤ s.stk.length ∧ x = .int .i64 ((n : Int) - 1) ∧ lastBelow (fun k => St.htmlEl (s.el k) names) n = s.untilK names ∧ Bel w wr) (fun x wr => (intOf x + 1).toNat)
  case atStart => exact ⟨s.stk.length, Nat.le_refl _, rfl, rfl, Below.refl _ _⟩
  case round =>
    obtain ⟨n, hn1, rfl, heq, hb⟩ := hrel
    have c1' := (hb.cell (p := ⟨st, 1, none⟩) hstl).trans c1
    have f1' := (hb.frozen (p := ⟨st, 1, none⟩) hstl).trans f1
    cases n with
    | zero =>
      have HE := Lib.hid heq; clear heq
      go_wp2
      go_ret
      have e : s.untilK names = -1 := by rw [← HE.out]; rfl
      have hE : s.untilE names = 4 ∧ s.until_ names = s := by unfold St.untilE St.until_; simp [e]
      rw [hE.1, hE.2]
      exact ⟨rfl, Mut.of_bel hb, (h.bel hb).keep (fun _ _ => rfl) (fun _ h => .inl h) (grow_lt h.lt hb.size)⟩
    | succ n =>
      obtain ⟨b, rfl, hc⟩ := HR.out (by omega)
      have hbl : b < w.heap.size := by
        have := (hc n (by omega)).1
        refine Nat.lt_of_not_le fun hge => ?_
        simp [World.cell?, Array.getElem?_eq_none hge] at this
      obtain ⟨d0, d1, d2⟩ := hc n (by omega)
      replace d0 := (hb.cell (p := ⟨b, n * 3, none⟩) hbl).trans d0
      replace d1 := (hb.cell (p := ⟨b, n * 3 + 1, none⟩) hbl).trans d1
      replace d2 := (hb.cell (p := ⟨b, n * 3 + 2, none⟩) hbl).trans d2
      have e1 : ((n + 1 : Nat) : Int) - 1 = (n : Int) := by omega
      have wn : IntKind.i64.wrap ((n : Int) - 1) = (n : Int) - 1 := IntWalk.i64_in _ (by omega)
      rw [e1]
      have hcap := HV.out.row.cap_le (by omega)
      have hcap2 : (n : Int) ≤ (cap : Int) := by omega
      have hH := openHtml_c wr (s.stk.getD n {}) v names (hn.bel hb)
      clear hc e1 hcap
      cases hbt : St.htmlEl (s.stk.getD n {}) names
      · rw [lastBelow_miss (p := fun k => St.htmlEl (s.el k) names) hbt] at heq
        rw [hbt] at hH
        have HE := Lib.hid heq; have HH := Lib.hid hH; clear heq hH hbt
        generalize s.stk.getD n {} = o at *
        go_wp2_with (go_at_call 172; refine HH.out.mono ?_; rintro e w1 ⟨rfl, hb1⟩)
        go_roundw
        case rel => exact ⟨n, by omega, rfl, HE.out, bel_tr hb hb1⟩
        case measure => simp [intOf]
      · rw [lastBelow_hit (p := fun k => St.htmlEl (s.el k) names) hbt] at heq
        rw [hbt] at hH
        have HE := Lib.hid heq; have HH := Lib.hid hH; clear heq hH hbt
        generalize s.stk.getD n {} = o at *
        go_wp2_with (go_at_call 172; refine HH.out.mono ?_; rintro e w1 ⟨rfl, hb1⟩; have c1'' := ((bel_tr hb hb1).cell (p := ⟨st, 1, none⟩) hstl).trans c1; have f1'' := ((bel_tr hb hb1).frozen (p := ⟨st, 1, none⟩) hstl).trans f1)
        go_ret
        have hE : s.untilE names = 0 ∧ (s.until_ names).stk = s.stk.take n := by
          unfold St.untilE St.until_
          rw [← HE.out, if_neg (by omega), if_neg (by omega)]
          exact ⟨rfl, rfl⟩
        rw [hE.1, hE.2]
        have hcut := HV.out.cutTo n (by omega) (bel_tr hb hb1)
        exact ⟨rfl, hcut.1, hcut.2⟩
end Go.Proofs.YtgaebaokcjhcdaaGreatDoor

/- Kinds of elements: in, Special, Implied, Thorough, Scope. -/
set_option linter.unusedVariables false
set_option linter.unusedSimpArgs false
namespace Go.Proofs.YtgaebaokcjhcdaaGreatDoor
open Go.RowKit Lz

/-- What package-level variables hold that the code reads. -/
structure Glob (w : World) : Prop where
  maxLen : ∃ m, w.cell? ⟨5, 0, none⟩ = some (.int .i64 m)
  scopes : ∀ i, i < 4 → w.cell? ⟨4, i, none⟩ = some (.string (scopes (i : Int)))
  size : 6 ≤ w.heap.size
theorem Glob.keep {w w' : World} (h : Glob w) (hs : w.heap.size ≤ w'.heap.size) (hk : ∀ k, k < 6 → w'.heap[k]? = w.heap[k]?) : Glob w' := by
  obtain ⟨m, hm⟩ := h.maxLen
  exact ⟨⟨m, (World.cell?_of_block (a := ⟨5, 0, none⟩) (hk 5 (by omega))).trans hm⟩, fun i hi => (World.cell?_of_block (a := ⟨4, i, none⟩) (hk 4 (by omega))).trans (h.scopes i hi), Nat.le_trans h.size hs⟩
theorem Glob.bel {w w' : World} (h : Glob w) (hb : Bel w w') : Glob w' := h.keep hb.size fun k hk => hb.block k (by have := h.size; omega)
theorem Glob.mut {w w' : World} {F : Nat → Prop} (h : Glob w) (hm : Mut F w w') (hF : ∀ k, F k → 6 ≤ k) : Glob w' := h.keep hm.size fun k hk => hm.block k (by have := h.size; omega) fun h2 => by have := hF k h2; omega

theorem kin_data (name : ByteArray) : ((⟨#[32]⟩ : ByteArray) ++ name ++ ⟨#[32]⟩).data.toList = [32] ++ name.data.toList ++ [32] := by simp [ByteArray.data_append]

set_option maxHeartbeats 1000000 in
theorem kin_c (w : World) (list name : ByteArray) (hg : Glob w) (hl : list.size < 4294967281) (hn : name.size < 1000000) :
    Calls Tryz.prog 161 #[.string list, .string name] w fun e w' => e = .returned (.bool (kin list name)) ∧ w' = w := by
  obtain ⟨m, hm⟩ := hg.maxLen
  have C1 := fun x (hx : x.size < 4294967281) (y : ByteArray) => Tryz.strings_Contains x y m w hx hm
  have K1 := Lib.hid (C1 name (by omega) ⟨#[32]⟩)
  have K2 := Lib.hid (C1 list hl (((⟨#[32]⟩ : ByteArray) ++ name) ++ ⟨#[32]⟩))
  have hk : kin list name = (!name.toList.isEmpty && !Lib.contains name.data.toList [32] && Lib.contains list.data.toList (((⟨#[32]⟩ : ByteArray) ++ name) ++ ⟨#[32]⟩).data.toList) := by
    rw [kin_data, Lib.toList_data]; rfl
  rw [hk]
  clear hk C1 hm hg
  have l1 : ¬ (9223372036854775807 : Int) < 1 + (name.size : Int) := by omega
  have l2 : ¬ (9223372036854775807 : Int) < 1 + (name.size : Int) + 1 := by omega
  generalize e2 : Lib.contains list.data.toList (((⟨#[32]⟩ : ByteArray) ++ name) ++ ⟨#[32]⟩).data.toList = b2 at *
  generalize e1 : Lib.contains name.data.toList (⟨#[32]⟩ : ByteArray).data.toList = b1 at *
  have e1' : Lib.contains name.data.toList [32] = b1 := e1
  clear e1 e2 e1'
  cases h0 : name.toList.isEmpty
  · cases b1 <;> (
      go_enter Tryz.func161, Tryz.ntmps161
      go_wp2_with (go_at_call 194; first | (with_reducible refine (K1.out).mono ?_; rintro e w' ⟨rfl, rfl⟩) | (with_reducible refine (K2.out).mono ?_; rintro e w' ⟨rfl, rfl⟩))
      go_ret
      exact ⟨ret_bool (by simp), rfl⟩)
  · have h1 : name.toList = [] := by simpa using h0
    go_enter Tryz.func161, Tryz.ntmps161
    go_wp2
    go_ret
    exact ⟨rfl, rfl⟩

set_option maxRecDepth 100000 in
theorem size_special : l_special.size < 4294967281 := by decide
set_option maxRecDepth 100000 in
theorem size_math : l_math.size < 4294967281 := by decide
set_option maxRecDepth 100000 in
theorem size_svg : l_svg.size < 4294967281 := by decide
set_option maxRecDepth 100000 in
theorem size_implied : l_implied.size < 4294967281 := by decide
set_option maxRecDepth 100000 in
theorem size_thorough : l_thorough.size < 4294967281 := by decide
set_option maxRecDepth 100000 in
theorem size_scopes (i : Int) : (scopes i).size < 4294967281 := by
  unfold scopes; split
  · decide
  · split
    · decide
    · split <;> decide

set_option maxRecDepth 100000 in
theorem special_c (w : World) (space : Int) (name : ByteArray) (hg : Glob w) (hn : name.size < 1000000) :
    Calls Tryz.prog 106 #[.int .i64 space, .string name] w fun e w' => e = .returned (.bool (special space name)) ∧ w' = w := by
  have K0 := kin_c w l_special name hg size_special hn
  have K2 := kin_c w l_math name hg size_math hn
  have K1 := kin_c w l_svg name hg size_svg hn
  by_cases h0 : space = 0
  · subst h0
    have e : special 0 name = kin l_special name := rfl
    rw [e]; generalize kin l_special name = b at *
    unfold l_special at K0
    have H := Lib.hid K0; clear K0 K1 K2 e
    go_enter Tryz.func106, Tryz.ntmps106
    go_wp2_with (go_at_call 161; with_reducible refine (H.out).mono ?_; rintro e w' ⟨rfl, rfl⟩)
    go_ret
    exact ⟨rfl, rfl⟩
  by_cases h2 : space = 2
  · subst h2
    have e : special 2 name = kin l_math name := rfl
    rw [e]; generalize kin l_math name = b at *
    unfold l_math at K2
    have H := Lib.hid K2; clear K0 K1 K2 e
    go_enter Tryz.func106, Tryz.ntmps106
    go_wp2_with (go_at_call 161; with_reducible refine (H.out).mono ?_; rintro e w' ⟨rfl, rfl⟩)
    go_ret
    exact ⟨rfl, rfl⟩
  by_cases h1 : space = 1
  · subst h1
    have e : special 1 name = kin l_svg name := rfl
    rw [e]; generalize kin l_svg name = b at *
    unfold l_svg at K1
    have H := Lib.hid K1; clear K0 K1 K2 e
    go_enter Tryz.func106, Tryz.ntmps106
    go_wp2_with (go_at_call 161; with_reducible refine (H.out).mono ?_; rintro e w' ⟨rfl, rfl⟩)
    go_ret
    exact ⟨rfl, rfl⟩
  have b0 : (space == 0) = false := beq_eq_false_iff_ne.2 h0
  have b1 : (space == 1) = false := beq_eq_false_iff_ne.2 h1
  have b2 : (space == 2) = false := beq_eq_false_iff_ne.2 h2
  have e : special space name = false := by unfold special; simp [h0, h1, h2]
  rw [e]; clear K0 K1 K2 e h0 h1 h2
  go_enter Tryz.func106, Tryz.ntmps106
  go_wp2
  go_ret
  exact ⟨rfl, rfl⟩

theorem implied_c (w : World) (name : ByteArray) (hg : Glob w) (hn : name.size < 1000000) :
    Calls Tryz.prog 160 #[.string name] w fun e w' => e = .returned (.bool (impliedK name)) ∧ w' = w := by
  have K0 := kin_c w l_implied name hg size_implied hn
  have e : impliedK name = kin l_implied name := rfl
  rw [e]; generalize kin l_implied name = b at *
  unfold l_implied at K0
  have H := Lib.hid K0; clear K0 e
  go_enter Tryz.func160, Tryz.ntmps160
  go_wp2_with (go_at_call 161; with_reducible refine (H.out).mono ?_; rintro e w' ⟨rfl, rfl⟩)
  go_ret
  exact ⟨rfl, rfl⟩

theorem thorough_c (w : World) (name : ByteArray) (hg : Glob w) (hn : name.size < 1000000) :
    Calls Tryz.prog 233 #[.string name] w fun e w' => e = .returned (.bool (thoroughK name)) ∧ w' = w := by
  have K0 := kin_c w l_thorough name hg size_thorough hn
  have K1 := implied_c w name hg hn
  have e : thoroughK name = (impliedK name || kin l_thorough name) := rfl
  rw [e]; generalize kin l_thorough name = b at *; generalize impliedK name = c at *
  unfold l_thorough at K0
  have H := Lib.hid K0; have G := Lib.hid K1; clear K0 e K1
  cases c <;> (
    go_enter Tryz.func233, Tryz.ntmps233
    go_wp2_with (first | (go_at_call 161; with_reducible refine (H.out).mono ?_; rintro e w' ⟨rfl, rfl⟩) | (go_at_call 160; with_reducible refine (G.out).mono ?_; rintro e w' ⟨rfl, rfl⟩))
    go_ret
    exact ⟨ret_bool (by simp), rfl⟩)

set_option maxRecDepth 100000 in
theorem scope_c (w : World) (which space : Int) (name : ByteArray) (hg : Glob w) (hn : name.size < 1000000) :
    Calls Tryz.prog 206 #[.int .i64 which, .int .i64 space, .string name] w fun e w' => e = .returned (.bool (scopeK which space name)) ∧ w' = w := by
  have hs := fun i (hi : i < 4) => hg.scopes i hi
  have K0 := kin_c w (scopes which) name hg (size_scopes which) hn
  have K1 := special_c w space name hg hn
  have HS := Lib.hid hs; clear hs
  by_cases w0 : which < 0
  · have e : scopeK which space name = false := by unfold scopeK; simp [w0]
    rw [e]; clear e K0 K1
    go_enter Tryz.func206, Tryz.ntmps206
    go_wp2
    go_ret
    exact ⟨rfl, rfl⟩
  by_cases w4 : 4 ≤ which
  · have e : scopeK which space name = false := by unfold scopeK; simp [w4]
    rw [e]; clear e K0 K1
    go_enter Tryz.func206, Tryz.ntmps206
    go_wp2
    go_ret
    exact ⟨rfl, rfl⟩
  by_cases s0 : space = 0
  · subst s0
    have e : scopeK which 0 name = kin (scopes which) name := by unfold scopeK; simp [w0, w4]
    have hc := HS.out which.toNat (by omega)
    rw [Int.toNat_of_nonneg (by omega)] at hc
    rw [e]
    generalize kin (scopes which) name = b at *
    generalize scopes which = sc at *
    have H := Lib.hid K0; clear K0 e K1
    have w0' : 0 ≤ which := by omega
    have w4' : which < 4 := by omega
    go_enter Tryz.func206, Tryz.ntmps206
    go_wp2_with (go_at_call 161; with_reducible refine (H.out).mono ?_; rintro e w' ⟨rfl, rfl⟩)
    go_ret
    exact ⟨rfl, rfl⟩
  have b0 : (space == 0) = false := beq_eq_false_iff_ne.2 s0
  by_cases w3 : which = 3
  · subst w3
    have e : scopeK 3 space name = false := by unfold scopeK; simp [s0]
    rw [e]; clear e K0 K1 s0
    go_enter Tryz.func206, Tryz.ntmps206
    go_wp2
    go_ret
    exact ⟨rfl, rfl⟩
  have b3 : (which != 3) = true := by simpa using w3
  have e : scopeK which space name = special space name := by unfold scopeK; simp [w0, w4, s0, w3]
  rw [e]
  generalize special space name = b at *
  have H := Lib.hid K1; clear e K0 K1 s0 w3
  go_enter Tryz.func206, Tryz.ntmps206
  go_wp2_with (go_at_call 106; with_reducible refine (H.out).mono ?_; rintro e w' ⟨rfl, rfl⟩)
  go_ret
  exact ⟨rfl, rfl⟩
end Go.Proofs.YtgaebaokcjhcdaaGreatDoor

/- The stack: the range over a scope. -/
set_option linter.unusedVariables false
set_option linter.unusedSimpArgs false
namespace Go.Proofs.YtgaebaokcjhcdaaGreatDoor
open Go.RowKit Go.Shelf Lz
attribute [local go_sem] Oper.semAt_some

/-- All that is cells lies as it lay. -/
structure KC (W W' : World) : Prop where
  size : W.heap.size ≤ W'.heap.size
  same : ∀ (k : Nat) cs t fr, W.heap[k]? = some (.cells cs t fr) → W'.heap[k]? = W.heap[k]?
theorem KC.refl (W : World) : KC W W := ⟨Nat.le_refl _, fun _ _ _ _ _ => rfl⟩
theorem KC.trans {A B C : World} (h : KC A B) (k : KC B C) : KC A C :=
  ⟨Nat.le_trans h.size k.size, fun i cs t fr hi => (k.same i cs t fr ((h.same i cs t fr hi).trans hi)).trans (h.same i cs t fr hi)⟩
theorem KC.of_bel {A B : World} (h : Bel A B) : KC A B := ⟨h.size, fun k cs t fr hk => h.block k (Array.getElem?_eq_some_iff.1 hk).1⟩
theorem KC.put {W : World} {l : Nat} {o o' : Obj} (h : W.heap[l]? = some o) (hc : o.isCells = false) : KC W (W.putObj l o') := by
  refine ⟨by simp, fun k cs t fr hk => World.putObj_heap_other (fun e => ?_)⟩
  subst e
  rw [h] at hk
  injection hk with hk
  subst hk
  simp [Obj.isCells] at hc
theorem KC.cell {W W' : World} (h : KC W W') {b j : Nat} {v : Value} (hc : W.cell? ⟨b, j, none⟩ = some v) : W'.cell? ⟨b, j, none⟩ = some v := by
  cases hb : W.heap[b]? with
  | none => simp [World.cell?, hb] at hc
  | some o =>
    cases o with
    | cells cs t fr => exact (World.cell?_of_block (a := ⟨b, j, none⟩) (h.same b cs t fr hb)).trans hc
    | _ => simp [World.cell?, hb] at hc
theorem Glob.kc {W W' : World} (h : Glob W) (hk : KC W W') : Glob W' := by
  obtain ⟨m, hm⟩ := h.maxLen
  exact ⟨⟨m, hk.cell hm⟩, fun i hi => hk.cell (h.scopes i hi), Nat.le_trans h.size hk.size⟩
theorem kcK_t {A B C : World} (h : KC A B) (k : KC B C) : KC A C := h.trans k

/-- What a range over a scope gives, from the top. -/
def reach (el : Nat → OpEl) (stop : Nat → Bool) : Nat → List OpEl
  | 0 => []
  | k + 1 => el k :: (if stop k then [] else reach el stop k)
theorem scopeFind_any (el : Nat → OpEl) (stop : Nat → Bool) (p : OpEl → Bool) : ∀ n, scopeFind (fun k => p (el k)) stop n = (reach el stop n).any p
  | 0 => rfl
  | n + 1 => by
    unfold scopeFind reach
    rw [List.any_cons]
    cases p (el n)
    · cases h : stop n
      · simp [scopeFind_any el stop p n]
      · simp
    · simp

theorem sScope_c (w : World) (st : Addr) (which : Int) :
    Calls Tryz.prog 184 #[.pointer (some st), .int .i64 which] w fun e w' => e = .returned (.func (.func 205) #[] #[.pointer (some ⟨w.heap.size, 0, none⟩), .pointer (some ⟨w.heap.size + 1, 0, none⟩)]) ∧
      w' = (w.alloc (.cells #[.pointer (some st)] 27)).alloc (.cells #[.int .i64 which] 3) := by
  go_enter Tryz.func184, Tryz.ntmps184
  go_wp2
  go_ret
  exact ⟨rfl, rfl⟩

set_option maxRecDepth 100000 in
set_option maxHeartbeats 2000000 in
theorem sScope1_in (n : Nat) (hn : 1 ≤ n) (l B1 B2 st a : Nat) (F : Nat → Prop) (s : St) (which : Int) (J Jx : List OpEl → World → Prop) (W : World) (h : StackRep W F st a s.stk) (hg : Glob W)
    (hN : ∀ k, (s.el k).name.size < 1000000)
    (hJ : ∀ pre A B, J pre A → Bel A B → J pre B)
    (hY : ∀ pre x W1, J pre W1 → pre.length < (reach s.el (fun k => scopeK which (s.el k).space (s.el k).name) s.stk.length).length → YieldAt Fence.wide (n - 1) Tryz.prog l #[opV x] W1 fun e W' =>
      (e = .returned (.bool true) ∧ J (pre ++ [x]) W' ∧ KC W1 W') ∨ (e = .returned (.bool false) ∧ Jx (pre ++ [x]) W'))
    (h1 : W.cell? ⟨B1, 0, none⟩ = some (.pointer (some ⟨st, 0, none⟩))) (h2 : W.cell? ⟨B2, 0, none⟩ = some (.int .i64 which)) (h0 : J [] W) :
    CallsIn Fence.wide n Tryz.prog 205 #[.func (.yield l) #[] #[], .pointer (some ⟨B1, 0, none⟩), .pointer (some ⟨B2, 0, none⟩)] W fun e W' => (∃ v, e = .returned v) ∧
      ((∃ ys, ys = reach s.el (fun k => scopeK which (s.el k).space (s.el k).name) s.stk.length ∧ J ys W') ∨ (∃ pre, pre <+: reach s.el (fun k => scopeK which (s.el k).space (s.el k).name) s.stk.length ∧ Jx pre W')) := by
  obtain ⟨A, cap, c0, c1, _, hs, hr⟩ := h.form
  have wk : IntKind.i64.wrap ((s.stk.length : Int) - 1) = (s.stk.length : Int) - 1 := IntWalk.i64_in _ (by omega)
  obtain ⟨X, hX⟩ : ∃ X, reach s.el (fun k => scopeK which (s.el k).space (s.el k).name) s.stk.length = X := ⟨_, rfl⟩
  rw [hX] at hY ⊢
  have HX := Lib.hid hX; have HR := Lib.hid hr; have HN := Lib.hid hN; have HJ := Lib.hid hJ; have HY := Lib.hid hY; have HG := Lib.hid hg
  clear hX hr hN hJ hY hg
  refine callsIn_of_wp Tryz.func205 rfl trivial ?_ rfl
  simp only [Tryz.ntmps205, List.size_toArray, List.length_cons, List.length_nil, Nat.reduceAdd, Nat.reduceSub, Array.replicate_succ, Array.replicate_zero, List.push_toArray, List.append_toArray, List.nil_append, List.cons_append]
  gi_wp2_with (refine ⟨trivial, ?_⟩; gi_at_call 20; refine (callsIn_wide.2 (sLen_c h)).mono ?_; rintro e w' ⟨rfl, rfl⟩)
  gi_loopw [4] (fun p wr => ∃ (pre : List OpEl) (m : Nat), m ≤ s.stk.length ∧ p = .int .i64 ((m : Int) - 1) ∧ X = pre ++ reach s.el (fun k => scopeK which (s.el k).space (s.el k).name) m ∧ J pre wr ∧ KC W wr) (fun p wr => (intOf p + 1).toNat)
  case atStart => exact ⟨[], s.stk.length, Nat.le_refl _, rfl, HX.out.symm, h0, KC.refl _⟩
  case round =>
    obtain ⟨pre, m, hm, rfl, hx, hJs, hk⟩ := hrel
    cases m with
    | zero =>
      have HX2 := Lib.hid hx; clear hx
      gi_wp2
      go_end0
      exact ⟨⟨_, rfl⟩, .inl ⟨pre, by rw [HX2.out]; simp [reach], hJs⟩⟩
    | succ m =>
      obtain ⟨b, rfl, hc⟩ := HR.out (by omega)
      obtain ⟨d0, d1, d2⟩ := hc m (by omega)
      replace d0 := hk.cell d0
      replace d1 := hk.cell d1
      replace d2 := hk.cell d2
      have c1' := hk.cell c1
      have e1' := hk.cell h1
      have e2' := hk.cell h2
      have e1 : ((m + 1 : Nat) : Int) - 1 = (m : Int) := by omega
      have wn : IntKind.i64.wrap ((m : Int) - 1) = (m : Int) - 1 := IntWalk.i64_in _ (by omega)
      have hnm : (s.stk.getD m {}).name.size < 1000000 := HN.out m
      have hre : reach s.el (fun k => scopeK which (s.el k).space (s.el k).name) (m + 1) = s.stk.getD m {} :: (if scopeK which (s.stk.getD m {}).space (s.stk.getD m {}).name then [] else reach s.el (fun k => scopeK which (s.el k).space (s.el k).name) m) := rfl
      rw [hre] at hx
      have hmi : (m : Int) < (s.stk.length : Int) := by omega
      have hmz : (0 : Int) ≤ (m : Int) := by omega
      rw [e1]
      clear hc e1 hre
      generalize s.stk.getD m {} = o at *
      have hlen : pre.length < X.length := by rw [hx]; simp
      have HX2 := Lib.hid hx
      obtain ⟨fn, tmps, assign, body, hy, hR⟩ := HY.out pre o (wr.alloc (.cells #[.int .i64 o.node, .int .i64 o.space, .string o.name] 116 (0, 0))) (HJ.out _ _ _ hJs (bel_alloc _ _)) hlen
      unfold opV at hy
      clear hx hlen
      gi_wp2
      refine hR.mono ?_
      rintro e W3 (⟨rfl, hJ3, hk3⟩ | ⟨rfl, hJx3⟩)
      · have hkw : KC wr W3 := (KC.of_bel (bel_alloc _ _)).trans hk3
        have b2 := hkw.cell e2'
        have n1 := hk3.cell (b := wr.heap.size) (j := 1) (v := .int .i64 o.space) (blk_cell (heap_alloc_new wr _) 1)
        have n2 := hk3.cell (b := wr.heap.size) (j := 2) (v := .string o.name) (blk_cell (heap_alloc_new wr _) 2)
        have hSc := scope_c W3 which o.space o.name (HG.out.kc (hk.trans hkw)) hnm
        cases hst : scopeK which o.space o.name
        · rw [hst] at hSc
          have HS := Lib.hid hSc; have HT := Lib.hid hst
          clear hSc hst hy
          gi_wp2_with (refine ⟨trivial, ?_⟩; gi_at_call 206; refine (callsIn_wide.2 HS.out).mono ?_; rintro e w' ⟨rfl, rfl⟩)
          go_roundw
          case rel => exact ⟨pre ++ [o], m, by omega, rfl, by rw [HX2.out, HT.out]; simp, hJ3, hk.trans hkw⟩
          case measure => simp [intOf]
        · rw [hst] at hSc
          have HS := Lib.hid hSc; have HT := Lib.hid hst
          clear hSc hst hy
          gi_wp2_with (refine ⟨trivial, ?_⟩; gi_at_call 206; refine (callsIn_wide.2 HS.out).mono ?_; rintro e w' ⟨rfl, rfl⟩)
          refine bodyPost_ret (results_none rfl _ _ _) rfl ?_
          exact ⟨⟨_, rfl⟩, .inl ⟨pre ++ [o], by rw [HX2.out, HT.out]; simp, hJ3⟩⟩
      · clear hy
        gi_wp2
        refine ⟨trivial, ?_⟩
        gi_wp2
        refine bodyPost_ret (results_none rfl _ _ _) rfl ?_
        exact ⟨⟨_, rfl⟩, .inr ⟨pre ++ [o], ⟨(if scopeK which o.space o.name then [] else reach s.el (fun k => scopeK which (s.el k).space (s.el k).name) m), by rw [HX2.out]; simp⟩, hJx3⟩⟩
end Go.Proofs.YtgaebaokcjhcdaaGreatDoor
