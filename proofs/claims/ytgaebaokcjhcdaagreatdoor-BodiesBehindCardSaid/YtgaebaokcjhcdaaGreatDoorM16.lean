/- The law's shape: a tree as text. -/
import Derived.Test.YtgaebaokcjhcdaaGreatDoorM15

set_option linter.unusedVariables false
set_option linter.unusedSimpArgs false
namespace Go.Proofs.YtgaebaokcjhcdaaGreatDoor
open Go.RowKit Lz

def shapeS (ns : List Nd) : Nat → Int → Str
  | 0, _ => n_empty
  | f + 1, i => if i < 0 || (ns.length : Int) ≤ i then n_empty else if (nodeAt ns i).kind == 4 then (nodeAt ns i).text
    else ((nodeAt ns i).kids.foldl (fun acc k => acc ++ shapeS ns f k) ((nodeAt ns i).name ++ ⟨#[40]⟩)) ++ ⟨#[41]⟩
/-- All that shape comes to is a node, and no text is long. -/
def shapeOK (ns : List Nd) : Nat → Int → Bool
  | 0, _ => false
  | f + 1, i => if i < 0 || (ns.length : Int) ≤ i then true else if (nodeAt ns i).kind == 4 then true
    else (nodeAt ns i).kids.all (fun k => shapeOK ns f k) && decide ((shapeS ns (f + 1) i).size ≤ 1000000000)
def accS (ns : List Nd) (f : Nat) (a : Str) (l : List Int) : Str := l.foldl (fun acc k => acc ++ shapeS ns f k) a
theorem accS_take (ns : List Nd) (f : Nat) (a : Str) (l : List Int) (j : Nat) (hj : j < l.length) : accS ns f a (l.take (j + 1)) = accS ns f a (l.take j) ++ shapeS ns f (l.getD j 0) := by
  unfold accS
  rw [List.take_succ_eq_append_getElem hj, List.foldl_append, List.getD_eq_getElem?_getD, List.getElem?_eq_getElem hj]
  rfl
theorem accS_le (ns : List Nd) (f : Nat) : ∀ (l : List Int) (a : Str), a.size ≤ (accS ns f a l).size
  | [], a => Nat.le_refl _
  | x :: r, a => by
    have h1 := accS_le ns f r (a ++ shapeS ns f x)
    rw [ByteArray.size_append] at h1
    show a.size ≤ (accS ns f (a ++ shapeS ns f x) r).size
    omega
theorem accS_split (ns : List Nd) (f : Nat) (a : Str) (l : List Int) (j : Nat) : accS ns f a l = accS ns f (accS ns f a (l.take j)) (l.drop j) := by
  unfold accS
  rw [← List.foldl_append, List.take_append_drop]
theorem TreeVal.bel {w w' : World} {G : Nat → Prop} {v : Value} {ns : List Nd} (h : TreeVal w G v ns) (hb : Bel w w') (hlt : ∀ k, G k → k < w.heap.size) : TreeVal w' G v ns := by
  obtain ⟨g, cap, cur, va, vk, rfl, hG, hh, hcap, hc, hk, hva⟩ := h
  exact ⟨g, cap, cur, va, vk, rfl, hG, (hb.block g (hlt g hG)).trans hh, hcap, hc, fun i hi => (hk i hi).keep (fun k hF _ => hb.block k (hlt k hF)) (fun _ h => h), hva⟩
set_option maxRecDepth 100000 in
set_option maxHeartbeats 4000000 in
theorem shape_c (ns : List Nd) (v : Value) : ∀ (f : Nat) (i : Int) (w : World) (G : Nat → Prop), TreeVal w G v ns → (∀ k, G k → k < w.heap.size) → ns.length ≤ 1048576 → (∀ i, (nodeAt ns i).kids.length ≤ 1048576) → shapeOK ns f i = true →
    Calls Tryz.prog 16 #[v, .int .i64 i] w fun e w' => e = .returned (.string (shapeS ns f i)) ∧ Bel w w'
  | 0, i, w, G, hT, hlt, hn, hk, h => by cases h
  | f + 1, i, w, G, hT, hlt, hn, hk, h => by
    have IH := Lib.hid (fun i w G => shape_c ns v f i w G)
    have hT' := hT
    obtain ⟨g, cap, cur, va, vk, rfl, hG, hb, hcap, hc, hkr, hva⟩ := hT'
    unfold shapeOK at h
    by_cases hi : i < 0 ∨ (ns.length : Int) ≤ i
    · have e : shapeS ns (f + 1) i = n_empty := by
        unfold shapeS
        have : (decide (i < 0) || decide ((ns.length : Int) ≤ i)) = true := by rcases hi with h | h <;> simp [h]
        rw [if_pos this]
      rw [e]
      clear hT hc hkr e h hva
      rcases hi with hi | hi
      · go_enter Tryz.func16, Tryz.ntmps16
        go_wp2
        go_ret
        exact ⟨rfl, Below.refl _ _⟩
      · have hi0 : ¬ i < 0 := by omega
        have hi1 : 0 ≤ i := by omega
        go_enter Tryz.func16, Tryz.ntmps16
        go_wp2
        go_ret
        exact ⟨rfl, Below.refl _ _⟩
    · have hi0 : 0 ≤ i := by omega
      have hi1 : i < (ns.length : Int) := by omega
      have hd : (decide (i < 0) || decide ((ns.length : Int) ≤ i)) = false := by simp; omega
      have eS : shapeS ns (f + 1) i = if (nodeAt ns i).kind == 4 then (nodeAt ns i).text else (accS ns f ((nodeAt ns i).name ++ ⟨#[40]⟩) (nodeAt ns i).kids) ++ ⟨#[41]⟩ := by
        unfold shapeS
        rw [hd]; rfl
      rw [hd] at h
      simp only [Bool.false_eq_true, if_false] at h
      have hnd : nodeAt ns i = ns.getD i.toNat nd0 := nodeAt_nat _ _ hi0
      have hcell : ∀ c, c < 11 → w.cell? ⟨g, i.toNat * 11 + c, none⟩ = (ndCells (nodeAt ns i) (va i.toNat) (vk i.toNat))[c]? := fun c hc' => by rw [blk_cell hb, hnd]; exact hc i.toNat c (by omega) hc'
      have hkrow := hkr i.toNat (by omega)
      rw [← hnd] at hkrow
      have hkl := hk i
      obtain ⟨A1, m1, z1, hvA⟩ := hva i.toNat (by omega)
      have HCELL := Lib.hid hcell
      have HES := Lib.hid eS; have HT := Lib.hid hT; have HLT := Lib.hid hlt; have HK := Lib.hid hk; have HOK := Lib.hid h
      rw [eS] at h
      have HOK2 := Lib.hid h
      clear hc hkr hnd hcell eS hd h hT hk hlt hi hva
      generalize nodeAt ns i = nn at *
      generalize va i.toNat = vA at *
      generalize vk i.toNat = vK at *
      subst hvA
      obtain ⟨A2, z2, rfl⟩ := hkrow.shape
      have q0 : w.cell? ⟨g, i.toNat * 11, none⟩ = some (.int .i64 nn.kind) := HCELL.out 0 (by decide)
      have q1 : w.cell? ⟨g, i.toNat * 11 + 1, none⟩ = some (.string nn.name) := HCELL.out 1 (by decide)
      have q2 : w.cell? ⟨g, i.toNat * 11 + 2, none⟩ = some (.string nn.text) := HCELL.out 2 (by decide)
      have q3 : w.cell? ⟨g, i.toNat * 11 + 3, none⟩ = some (.int .i64 nn.space) := HCELL.out 3 (by decide)
      have q4 : w.cell? ⟨g, i.toNat * 11 + 4, none⟩ = some (.slice A1 m1 z1) := HCELL.out 4 (by decide)
      have q5 : w.cell? ⟨g, i.toNat * 11 + 5, none⟩ = some (.bool nn.dup) := HCELL.out 5 (by decide)
      have q6 : w.cell? ⟨g, i.toNat * 11 + 6, none⟩ = some (.int .i64 nn.parent) := HCELL.out 6 (by decide)
      have q7 : w.cell? ⟨g, i.toNat * 11 + 7, none⟩ = some (.int .i64 nn.content) := HCELL.out 7 (by decide)
      have q8 : w.cell? ⟨g, i.toNat * 11 + 8, none⟩ = some (.slice A2 nn.kids.length z2) := HCELL.out 8 (by decide)
      have q9 : w.cell? ⟨g, i.toNat * 11 + 9, none⟩ = some (.int .i64 nn.frm) := HCELL.out 9 (by decide)
      have q10 : w.cell? ⟨g, i.toNat * 11 + 10, none⟩ = some (.int .i64 nn.to) := HCELL.out 10 (by decide)
      cases h4 : nn.kind == 4
      · have hes := HES.out
        have hok := HOK.out
        rw [h4] at hes hok
        simp only [Bool.false_eq_true, if_false, Bool.and_eq_true, decide_eq_true_eq] at hes hok
        obtain ⟨hall, hsz⟩ := hok
        rw [hes] at hsz ⊢
        have hall' : ∀ k ∈ nn.kids, shapeOK ns f k = true := fun k hk => List.all_eq_true.1 hall k hk
        have hs1 : (accS ns f (nn.name ++ ⟨#[40]⟩) nn.kids).size + 1 ≤ 1000000000 := by
          rw [ByteArray.size_append] at hsz; exact hsz
        have hs0 := accS_le ns f nn.kids (nn.name ++ ⟨#[40]⟩)
        have hs2 : nn.name.size + 1 ≤ 1000000000 := by
          rw [ByteArray.size_append] at hs0
          have : (⟨#[40]⟩ : ByteArray).size = 1 := rfl
          omega
        have l1 : ¬ (9223372036854775807 : Int) < (nn.name.size : Int) + 1 := by omega
        have HALL := Lib.hid hall'; have HS1 := Lib.hid hs1; have HROW := Lib.hid hkrow
        clear hall hsz hall' hs1 hs0 hes hkrow HES HOK HOK2 HCELL
        have hbn : (w.alloc (.cells (ndCells nn (.slice A1 m1 z1) (.slice A2 nn.kids.length z2)).toArray 54 (0, 0))).cell? ⟨w.heap.size, 8, none⟩ = some (.slice A2 nn.kids.length z2) := by rw [blk_cell (heap_alloc_new w _)]; rfl
        have HBN := Lib.hid hbn
        clear hbn
        go_enter Tryz.func16, Tryz.ntmps16
        go_wp2
        go_loopw [6, 7] (fun sv x wr => ∃ j : Nat, j ≤ nn.kids.length ∧ x = .int .i64 j ∧ sv = .string (accS ns f (nn.name ++ ⟨#[40]⟩) (nn.kids.take j)) ∧ Bel (w.alloc (.cells (ndCells nn (.slice A1 m1 z1) (.slice A2 nn.kids.length z2)).toArray 54 (0, 0))) wr) (fun _ x _ => nn.kids.length - (intOf x).toNat)
        case atStart => exact ⟨0, Nat.zero_le _, rfl, rfl, Below.refl _ _⟩
        case round =>
          obtain ⟨j, hj, rfl, rfl, hbw⟩ := hrel
          have hb1 := bel_tr (bel_alloc w _) hbw
          have d8 := (bel_box hbw 8).trans HBN.out
          clear q0 q1 q2 q3 q4 q5 q6 q7 q8 q9 q10
          have hsp := accS_split ns f (nn.name ++ ⟨#[40]⟩) nn.kids j
          have hs1 := HS1.out
          by_cases hlt : j < nn.kids.length
          · have htk := accS_take ns f (nn.name ++ ⟨#[40]⟩) nn.kids j hlt
            have hle : (accS ns f (nn.name ++ ⟨#[40]⟩) (nn.kids.take (j + 1))).size ≤ 1000000000 := by
              have h1 := accS_split ns f (nn.name ++ ⟨#[40]⟩) nn.kids (j + 1)
              have h2 := accS_le ns f (nn.kids.drop (j + 1)) (accS ns f (nn.name ++ ⟨#[40]⟩) (nn.kids.take (j + 1)))
              rw [← h1] at h2; omega
            rw [htk, ByteArray.size_append] at hle
            have hm : nn.kids.getD j 0 ∈ nn.kids := by rw [List.getD_eq_getElem?_getD, List.getElem?_eq_getElem hlt]; exact List.getElem_mem hlt
            have HI := Lib.hid (IH.out (nn.kids.getD j 0) wr G (HT.out.bel hb1 HLT.out) (fun k hk => Nat.lt_of_lt_of_le (HLT.out k hk) hb1.size) hn HK.out (HALL.out _ hm))
            have hkc : ∃ gk, A2 = some ⟨gk, 0, none⟩ ∧ wr.cell? ⟨gk, j, none⟩ = some (.int .i64 (nn.kids.getD j 0)) ∧ nn.kids.length ≤ z2 := by
              rcases HROW.out with ⟨e, e2⟩ | ⟨gk, ck, cu, e, hF, hbk, r1, r2, r3, r4⟩
              · rw [e2] at hlt; simp at hlt
              · cases e
                exact ⟨gk, rfl, (blk_cell ((hb1.block gk (HLT.out gk hF)).trans hbk) j).trans (r4 j hlt), r1⟩
            obtain ⟨gk, rfl, dk, hz2⟩ := hkc
            have HTK := Lib.hid htk
            clear htk hsp hs1 hm
            generalize nn.kids.getD j 0 = kid at *
            generalize shapeS ns f kid = ks at *
            generalize accS ns f (nn.name ++ ⟨#[40]⟩) (nn.kids.take j) = acc at *
            have l2 : ¬ (9223372036854775807 : Int) < (acc.size : Int) + (ks.size : Int) := by omega
            go_wp2_with (go_at_call 16; refine HI.out.mono ?_; rintro e w2 ⟨rfl, hb2⟩)
            go_roundw
            case rel => exact ⟨j + 1, by omega, by go_num, by rw [HTK.out], bel_tr hbw hb2⟩
            case measure => simp [intOf]; omega
          · have hjl : j = nn.kids.length := by omega
            rw [hjl, List.take_length]
            clear hsp
            obtain ⟨acc, hacc⟩ : ∃ acc, acc = accS ns f (nn.name ++ ⟨#[40]⟩) nn.kids := ⟨_, rfl⟩
            rw [← hacc] at hs1 ⊢
            have HACC := Lib.hid hacc
            clear hacc
            have l2 : ¬ (9223372036854775807 : Int) < (acc.size : Int) + 1 := by omega
            have HJ := Lib.hid hjl
            clear hjl
            go_wp2
            go_ret
            exact ⟨ret_str (by rw [← HACC.out]), hb1⟩
      · have e4 : shapeS ns (f + 1) i = nn.text := by rw [HES.out, h4]; rfl
        rw [e4]
        clear e4
        go_enter Tryz.func16, Tryz.ntmps16
        go_wp2
        go_ret
        exact ⟨rfl, bel_alloc _ _⟩
  termination_by f => f
end Go.Proofs.YtgaebaokcjhcdaaGreatDoor

/- The law's told. -/
set_option linter.unusedVariables false
set_option linter.unusedSimpArgs false
namespace Go.Proofs.YtgaebaokcjhcdaaGreatDoor
open Go.RowKit Lz
variable {w0 w w' : World} {F : Nat → Prop} {b a st l n : Nat} {s s' : St}

theorem BS.tree_ (h : BS w0 F w b a st l s) :
    Calls Tryz.prog 18 #[.pointer (some ⟨a, 0, none⟩)] w fun e w' => ∃ v, e = .returned v ∧ TreeVal w' (fun k => w.heap.size ≤ k ∧ k < w'.heap.size) v s.nodes ∧ BS w0 F w' b a st l s := by
  have h' := h
  obtain ⟨hm, ⟨Fa, Fs, Fl, Fb, vm, vk, hp, hF⟩, hlt⟩ := h
  exact (tree_c hp.arena).mono fun e w' ⟨v, h1, h2, h3⟩ => ⟨v, h1, h2, h'.bel h3⟩
theorem BS.kidsl (h : BS w0 F w b a st l s) : s.nodes.length ≤ 1048576 ∧ ∀ i, (nodeAt s.nodes i).kids.length ≤ 1048576 := by
  obtain ⟨hm, ⟨Fa, Fs, Fl, Fb, vm, vk, hp, hF⟩, hlt⟩ := h
  obtain ⟨g, cap, cur, va, vk, hv⟩ := hp.arena
  refine ⟨hv.small, fun i => ?_⟩
  unfold nodeAt
  split
  · by_cases hi : i.toNat < s.nodes.length
    · exact Nat.le_trans (kids_le hv.wf _ hi) hv.small
    · rw [List.getD_eq_getElem?_getD, List.getElem?_eq_none (by omega)]; exact Nat.zero_le _
  · exact Nat.zero_le _
/-- Where all of it began, for the globals. -/
structure Base (w : World) : Prop where
  glob : Glob w
  laid : Laid0 w
theorem Base.bel (h : Base w) (hb : Bel w w') : Base w' := by
  refine ⟨h.glob.bel hb, ?_⟩
  obtain ⟨h1, ⟨g, o, cap, c0, hc⟩, h3⟩ := h.laid
  have := h.glob.size
  have hgl : g < w.heap.size := by
    have := hc 0 (by omega)
    rcases Nat.lt_or_ge g w.heap.size with h' | h'
    · exact h'
    · simp [World.cell?, Array.getElem?_eq_none h'] at this
  exact ⟨tabIs_of h1 (hb.block 1 (by omega)), ⟨g, o, cap, (hb.cell (p := ⟨0, 0, none⟩) (by show 0 < _; omega)).trans c0, fun i hi => (hb.cell (p := ⟨g, o + i, none⟩) hgl).trans (hc i hi)⟩, Nat.le_trans h3 hb.size⟩
set_option maxRecDepth 100000 in
set_option maxHeartbeats 2000000 in
theorem told_c (hB : Base w) (g c : Nat) (ts : List Tok) (hr : TokRow w g ts) (hd : ∀ b a st l, DoAll b a st l (openedSt false) ts s') (f : Nat) (hok : shapeOK s'.nodes f 3 = true) :
    Calls Tryz.prog 34 #[.slice (some ⟨g, 0, none⟩) ts.length c] w fun e w' => e = .returned (.string (shapeS s'.nodes f 3)) ∧ Bel w w' := by
  have hgl : g < w.heap.size := by
    obtain ⟨_, cur, f, hb, _⟩ := hr
    exact (Array.getElem?_eq_some_iff.1 hb).1
  have HB := Lib.hid hB; have HR := Lib.hid hr; have HD := Lib.hid hd; have HOK := Lib.hid hok
  clear hB hr hd hok
  go_enter Tryz.func34, Tryz.ntmps34
  go_wp2_with fail
  refine (opened_c w HB.out.glob HB.out.laid false).mono ?_
  rintro e w1 ⟨b, a, st, l, sp, rfl, ns, op, hb1, Fb, Fs, hBR, hSR, h1, h2, h3⟩
  have hstart : BS w1 Fb w1 b a st l (openedSt false) := hBR.start (fun k hk => (h1 k hk).2)
  have hr1 : TokRow w1 g ts := by
    obtain ⟨hl, cur, f, hbk, hc⟩ := HR.out
    exact ⟨hl, cur, f, (hb1.block g hgl).trans hbk, hc⟩
  have hFg : ¬ Fb g := fun hk => by have := (h1 g hk).1; omega
  have hFb : ∀ k, Fb k → w.heap.size ≤ k := fun k hk => (h1 k hk).1
  have HDO := Lib.hid (does_c hstart g c ts hr1 (Nat.lt_of_lt_of_le hgl hb1.size) hFg (HD.out b a st l))
  have HFB := Lib.hid hFb; have HB1 := Lib.hid hb1
  clear h1 h2 h3 hSR hBR hr1 hFb hb1
  go_wp2_with (first | (go_at_call 17; first | (refine (k1.arena_).mono ?_; rintro e w' ⟨rfl, rfl⟩) | (refine (hstart.arena_).mono ?_; rintro e w' ⟨rfl, rfl⟩)) | (go_at_call 12; refine HDO.out.mono ?_; rintro e w2 ⟨rfl, k1⟩; have hbw2 := bel_mut HB1.out k1.mtd HFB.out) | (go_at_call 18; refine (k1.tree_).mono ?_; rintro e w3 ⟨v, rfl, hT, k2⟩; have HSH := Lib.hid (shape_c s'.nodes v f 3 w3 _ hT (fun k hk => hk.2) k2.kidsl.1 k2.kidsl.2 HOK.out); have hbw3 := bel_mut HB1.out k2.mtd HFB.out; clear hT k2) | (go_at_call 16; refine HSH.out.mono ?_; rintro e w4 ⟨rfl, hb4⟩))
  go_ret
  exact ⟨rfl, bel_tr hbw3 hb4⟩
end Go.Proofs.YtgaebaokcjhcdaaGreatDoor

/- What single tokens do in a body, as far as the restricted contracts reach. -/
set_option linter.unusedVariables false
set_option linter.unusedSimpArgs false
namespace Go.Proofs.YtgaebaokcjhcdaaGreatDoor
open Go.RowKit Lz
variable {w0 w w' : World} {F : Nat → Prop} {b a st l n : Nat} {s s' : St}

theorem run_of {N : Nat} {fn : Func} (hf : Tryz.prog.funcs[N]? = some fn) (hname : (fn.name == "runtime.NumGoroutine") = false) (hb : fn.body.isNone = false) : ∀ args w, (callFunc N args).run Tryz.prog w = .ok (.enter N args) w := fun args w => run_callFunc_go args w hf hname hb
theorem tagS {name : Str} (hz : name.size < 1000000) (hn : name ≠ n_template) : TagOK (tStart name) := ⟨rfl, hz, hn⟩
theorem fine_block (hf : Fine n s) {t : Tok} (ht : TagOK t) : Fine (n + 1) (St.block s t) := hf.closeP.ins t 0 ht.size ht.name
theorem fine_plain (hf : Fine n s) (hr : Reb s) {t : Tok} (ht : TagOK t) : Fine (n + 1) (St.plain s t) := (hf.rebuild hr).ins t 0 ht.size ht.name
theorem fine_single (hf : Fine n s) (hr : Reb s) {t : Tok} (ht : TagOK t) : Fine (n + 1) (St.single s t) := (hf.rebuild hr).only t ht.size ht.name
theorem fine_ruler (hf : Fine n s) {t : Tok} (ht : TagOK t) : Fine (n + 1) (St.ruler s t) := hf.closeP.only t ht.size ht.name
theorem fine_format (hf : Fine n s) (hr : Reb s) {t : Tok} (ht : TagOK t) : Fine (n + 1) (St.format s t) := by
  unfold St.format
  have h := (hf.rebuild hr).ins t 0 ht.size ht.name
  split
  · exact (h.fpush _).fail _
  · exact h
theorem fine_chars (hf : Fine n s) (hr : Reb s) (x : Str) (hx : x.size ≤ 1048576) : Fine (n + 1) (s.rebuild.chars x) := (hf.rebuild hr).chars x hx
theorem fine_endBr (hf : Fine n s) (hr : Reb s) : Fine (n + 1) (St.endBr s) := fine_single hf hr ⟨rfl, by decide, by decide⟩
theorem fine_endP (hf : Fine n s) : Fine (n + 1) (St.endP s) := by
  unfold St.endP
  split
  · exact hf.closeP.mono (by omega)
  · exact (hf.imply n_p (by decide) (by decide)).closeP
theorem fine_item (hf : Fine n s) (names : List Str) {t : Tok} (ht : TagOK t) : Fine (n + 1) (St.item s names t) := fine_block (hf.itemFrom names _) ht
theorem fine_link (hf : Fine n s) {t : Tok} (ht : TagOK t) (hok : 0 ≤ s.flastName n_a → RunAll s t.name) (hr : Reb (St.link1 s t)) : Fine (n + 8 + 1) (St.link s t) := fine_format (fine_link1 hf t hok) hr ht
theorem fine_opened : Fine 4 (openedSt false) := by
  have h1 := (fine_new false).imply n_html (by decide) (by decide)
  have h2 := (h1.imply n_head (by decide) (by decide)).head (St.imply { newSt with quirks := false } n_html).insI
  exact (h2.pop.imply n_body (by decide) (by decide)).set 6

theorem sd_block (hm : s.mode = 6) (hf : Fine n s) (hn : n + 2 ≤ 1048576) (name : Str) (hz : name.size < 1000000) (hnt : name ≠ n_template) (hit : ∀ p0 p1, hitOf (startRows p0 p1) (fun _ => true) name = some (.func (.func 71) #[] #[])) :
    StepDoes b a st l s (tStart name) (St.block s (tStart name)) :=
  step_body _ hm fun w0 F w h => body_start h (tStart name) rfl hz 71 (run_of Tryz.func71 (by kernel_rfl) (by kernel_rfl)) hit fun w0 F w k => block_c k hf hn _ (tagS hz hnt)
theorem sd_format (hm : s.mode = 6) (hf : Fine n s) (hn : n + 2 ≤ 1048576) (name : Str) (hz : name.size < 1000000) (hnt : name ≠ n_template) (hit : ∀ p0 p1, hitOf (startRows p0 p1) (fun _ => true) name = some (.func (.func 79) #[] #[])) (hr : Reb s) (hp : Psh (s.rebuild.ins (tStart name) 0)) :
    StepDoes b a st l s (tStart name) (St.format s (tStart name)) :=
  step_body _ hm fun w0 F w h => body_start h (tStart name) rfl hz 79 (run_of Tryz.func79 (by kernel_rfl) (by kernel_rfl)) hit fun w0 F w k => format_c k hf hn hr _ (tagS hz hnt) hp
theorem sd_link (hm : s.mode = 6) (hf : Fine n s) (hn : n + 20 ≤ 1048576) (hok : 0 ≤ s.flastName n_a → RunAll s n_a) (hr : Reb (St.link1 s (tStart n_a))) (hp : Psh ((St.link1 s (tStart n_a)).rebuild.ins (tStart n_a) 0)) :
    StepDoes b a st l s (tStart n_a) (St.link s (tStart n_a)) :=
  step_body _ hm fun w0 F w h => body_start h (tStart n_a) rfl (by decide) 78 (run_of Tryz.func78 (by kernel_rfl) (by kernel_rfl)) (fun p0 p1 => by kernel_rfl) fun w0 F w k => link_c k hf hn _ (tagS (by decide) (by decide)) hok hr hp
theorem sd_li (hm : s.mode = 6) (hf : Fine n s) (hn : n + 2 ≤ 1048576) : StepDoes b a st l s (tStart n_li) (St.item s [n_li] (tStart n_li)) :=
  step_body _ hm fun w0 F w h => body_start_li h hf hn (tStart n_li) (tagS (by decide) (by decide)) rfl rfl
theorem sd_chars (hm : s.mode = 6) (hf : Fine n s) (hn : n + 2 ≤ 1048576) (hr : Reb s) (x : Str) (hx : x.size ≤ 1048576) : StepDoes b a st l s (tChars x) (s.rebuild.chars x) :=
  step_body _ hm fun w0 F w h => body_chars h hf hn hr (tChars x) (.inr rfl) hx
theorem sd_formatted (hm : s.mode = 6) (hf : Fine n s) (hn : n + 10 ≤ 1048576) (name : Str) (hz : name.size < 1000000) (hh : (name == n_html) = false) (hit : ∀ p0 p1, hitOf (endRows p0 p1) (fun _ => true) name = some (.func (.func 100) #[] #[])) (hok : RunAll s name) :
    StepDoes b a st l s (tEnd name) (s.formatted name) :=
  step_body _ hm fun w0 F w h => body_end h (tEnd name) rfl hz hh 100 (run_of Tryz.func100 (by kernel_rfl) (by kernel_rfl)) hit fun w0 F w k => formatted_c k hf hn (tEnd name) hok
theorem sd_endBr (hm : s.mode = 6) (hf : Fine n s) (hn : n + 2 ≤ 1048576) (hr : Reb s) : StepDoes b a st l s (tEnd n_br) (St.endBr s) :=
  step_body _ hm fun w0 F w h => body_end h (tEnd n_br) rfl (by decide) (by decide) 102 (run_of Tryz.func102 (by kernel_rfl) (by kernel_rfl)) (fun p0 p1 => by kernel_rfl) fun w0 F w k => endBr_c k hf hn hr (tEnd n_br)
theorem sd_endP (hm : s.mode = 6) (hf : Fine n s) (hn : n + 2 ≤ 1048576) : StepDoes b a st l s (tEnd n_p) (St.endP s) :=
  step_body _ hm fun w0 F w h => body_end h (tEnd n_p) rfl (by decide) (by decide) 97 (run_of Tryz.func97 (by kernel_rfl) (by kernel_rfl)) (fun p0 p1 => by kernel_rfl) fun w0 F w k => endP_c k hf hn (tEnd n_p)

/-! ### the chapter's tokens -/
def sA0 : St := openedSt false
def sA1 : St := St.block sA0 (tStart n_p)
def sA2 : St := sA1.rebuild.chars n_x
def sA3 : St := St.block sA2 (tStart n_p)
def sA4 : St := sA3.rebuild.chars n_y
set_option maxRecDepth 100000 in
theorem doA : DoAll b a st l sA0 [tStart n_p, tChars n_x, tStart n_p, tChars n_y] sA4 := by
  have f0 : Fine 4 sA0 := fine_opened
  have t1 := tagS (name := n_p) (by decide) (by decide)
  have f1 : Fine 5 sA1 := fine_block f0 t1
  have r1 : Reb sA1 := by unfold Reb; decide +kernel
  have f2 : Fine 6 sA2 := fine_chars f1 r1 n_x (by decide)
  have f3 : Fine 7 sA3 := fine_block f2 t1
  have r3 : Reb sA3 := by unfold Reb; decide +kernel
  exact .cons _ _ _ _ _ (sd_block (by decide +kernel) f0 (by decide) n_p (by decide) (by decide) (fun p0 p1 => by kernel_rfl)) (.cons _ _ _ _ _ (sd_chars (by decide +kernel) f1 (by decide) r1 n_x (by decide)) (.cons _ _ _ _ _ (sd_block (by decide +kernel) f2 (by decide) n_p (by decide) (by decide) (fun p0 p1 => by kernel_rfl)) (.cons _ _ _ _ _ (sd_chars (by decide +kernel) f3 (by decide) r3 n_y (by decide)) (.nil _))))
set_option maxRecDepth 100000 in
theorem okA : shapeOK sA4.nodes 8 3 = true ∧ shapeS sA4.nodes 8 3 = ⟨#[98, 111, 100, 121, 40, 112, 40, 120, 41, 112, 40, 121, 41, 41]⟩ := by decide +kernel
end Go.Proofs.YtgaebaokcjhcdaaGreatDoor

/- The chapter's tokens, as the model does them. -/
set_option linter.unusedVariables false
set_option linter.unusedSimpArgs false
namespace Go.Proofs.YtgaebaokcjhcdaaGreatDoor
open Go.RowKit Lz
variable {b a st l n : Nat} {s s' : St}

def renewB (s : St) (format block mark : Int) : Bool := !decide ((St.rn2 s format block).findex format < mark) && decide (mark = ((St.rn3 s format block).fmts.length : Int)) && decide ((St.rn4 s format block).index block + 1 = ((St.rn4 s format block).stk.length : Int))
theorem renewOK_of {format block mark : Int} (h : renewB s format block mark = true) : RenewOK s format block mark := by
  simp only [renewB, Bool.and_eq_true, Bool.not_eq_true', decide_eq_true_eq, decide_eq_false_iff_not] at h
  exact ⟨h.1.1, h.1.2, h.2⟩
def onceB (s : St) (name : Str) : Bool :=
  decide (s.flastName name < 0) || decide (s.index (s.flastName name) < 0) || !s.hasNode 0 (s.flastName name) || decide (s.furthest (s.index (s.flastName name)) < 0) ||
    (decide (s.at_ (s.index (s.furthest (s.index (s.flastName name))) - 1) = s.flastName name) &&
      renewB (s.put (s.furthest (s.index (s.flastName name))) (s.at_ (s.index (s.flastName name) - 1))) (s.flastName name) (s.furthest (s.index (s.flastName name))) (s.findex (s.flastName name)))
theorem onceOK_of {name : Str} (h : onceB s name = true) : OnceOK s name := by
  simp only [onceB, Bool.or_eq_true, Bool.and_eq_true, Bool.not_eq_true', decide_eq_true_eq] at h
  rcases h with (((h | h) | h) | h) | h
  · exact .inl h
  · exact .inr (.inl h)
  · exact .inr (.inr (.inl h))
  · exact .inr (.inr (.inr (.inl h)))
  · exact .inr (.inr (.inr (.inr ⟨h.1, renewOK_of h.2⟩)))
def runB (name : Str) : Nat → St → Bool
  | 0, _ => true
  | k + 1, s => onceB s name && (!(s.once name).2.1 || !(s.once name).2.2 || runB name k (s.once name).1)
theorem runOK_of (name : Str) : ∀ (k : Nat) (s : St), runB name k s = true → RunOK name k s
  | 0, _, _ => trivial
  | k + 1, s, h => by
    simp only [runB, Bool.and_eq_true, Bool.or_eq_true, Bool.not_eq_true'] at h
    refine ⟨onceOK_of h.1, fun h1 h2 => ?_⟩
    rcases h.2 with (h3 | h3) | h3
    · rw [h1] at h3; cases h3
    · rw [h2] at h3; cases h3
    · exact runOK_of name k _ h3
def sB1 : St := St.format sA0 (tStart n_b)
def sB2 : St := sB1.rebuild.chars n_x
def sB3 : St := St.block sB2 (tStart n_p)
def sB4 : St := sB3.rebuild.chars n_y
def sB5 : St := sB4.formatted n_b
def sB6 : St := sB5.rebuild.chars n_z
set_option maxRecDepth 100000 in
theorem doB : DoAll b a st l sA0 [tStart n_b, tChars n_x, tStart n_p, tChars n_y, tEnd n_b, tChars n_z] sB6 := by
  have f0 : Fine 4 sA0 := fine_opened
  have t1 := tagS (name := n_p) (by decide) (by decide)
  have tb := tagS (name := n_b) (by decide) (by decide)
  have r0 : Reb sA0 := by unfold Reb; decide +kernel
  have p0 : Psh (sA0.rebuild.ins (tStart n_b) 0) := by unfold Psh; decide +kernel
  have f1 : Fine 5 sB1 := fine_format f0 r0 tb
  have r1 : Reb sB1 := by unfold Reb; decide +kernel
  have f2 : Fine 6 sB2 := fine_chars f1 r1 n_x (by decide)
  have f3 : Fine 7 sB3 := fine_block f2 t1
  have r3 : Reb sB3 := by unfold Reb; decide +kernel
  have f4 : Fine 8 sB4 := fine_chars f3 r3 n_y (by decide)
  have ok4 : RunAll sB4 n_b := .inr (runOK_of _ _ _ (by decide +kernel))
  have f5 : Fine 16 sB5 := fine_formatted f4 n_b ok4
  have r5 : Reb sB5 := by unfold Reb; decide +kernel
  exact .cons _ _ _ _ _ (sd_format (by decide +kernel) f0 (by decide) n_b (by decide) (by decide) (fun p0 p1 => by kernel_rfl) r0 p0) (.cons _ _ _ _ _ (sd_chars (by decide +kernel) f1 (by decide) r1 n_x (by decide)) (.cons _ _ _ _ _ (sd_block (by decide +kernel) f2 (by decide) n_p (by decide) (by decide) (fun p0 p1 => by kernel_rfl)) (.cons _ _ _ _ _ (sd_chars (by decide +kernel) f3 (by decide) r3 n_y (by decide)) (.cons _ _ _ _ _ (sd_formatted (by decide +kernel) f4 (by decide) n_b (by decide) (by decide) (fun p0 p1 => by kernel_rfl) ok4) (.cons _ _ _ _ _ (sd_chars (by decide +kernel) f5 (by decide) r5 n_z (by decide)) (.nil _))))))
set_option maxRecDepth 100000 in
theorem okB : shapeOK sB6.nodes 8 3 = true ∧ shapeS sB6.nodes 8 3 = ⟨#[98, 111, 100, 121, 40, 98, 40, 120, 41, 112, 40, 98, 40, 121, 41, 122, 41, 41]⟩ := by decide +kernel
def sC1 : St := St.link sA0 (tStart n_a)
def sC2 : St := sC1.rebuild.chars n_x
def sC3 : St := St.link sC2 (tStart n_a)
def sC4 : St := sC3.rebuild.chars n_y
set_option maxRecDepth 100000 in
theorem doC : DoAll b a st l sA0 [tStart n_a, tChars n_x, tStart n_a, tChars n_y] sC4 := by
  have f0 : Fine 4 sA0 := fine_opened
  have ta := tagS (name := n_a) (by decide) (by decide)
  have k0 : 0 ≤ sA0.flastName n_a → RunAll sA0 n_a := fun h => absurd h (by decide +kernel)
  have r0 : Reb (St.link1 sA0 (tStart n_a)) := by unfold Reb; decide +kernel
  have p0 : Psh ((St.link1 sA0 (tStart n_a)).rebuild.ins (tStart n_a) 0) := by unfold Psh; decide +kernel
  have f1 : Fine 13 sC1 := fine_link f0 ta k0 r0
  have r1 : Reb sC1 := by unfold Reb; decide +kernel
  have f2 : Fine 14 sC2 := fine_chars f1 r1 n_x (by decide)
  have k2 : 0 ≤ sC2.flastName n_a → RunAll sC2 n_a := fun _ => .inr (runOK_of _ _ _ (by decide +kernel))
  have r2 : Reb (St.link1 sC2 (tStart n_a)) := by unfold Reb; decide +kernel
  have p2 : Psh ((St.link1 sC2 (tStart n_a)).rebuild.ins (tStart n_a) 0) := by unfold Psh; decide +kernel
  have f3 : Fine 23 sC3 := fine_link f2 ta k2 r2
  have r3 : Reb sC3 := by unfold Reb; decide +kernel
  exact .cons _ _ _ _ _ (sd_link (by decide +kernel) f0 (by decide) k0 r0 p0) (.cons _ _ _ _ _ (sd_chars (by decide +kernel) f1 (by decide) r1 n_x (by decide)) (.cons _ _ _ _ _ (sd_link (by decide +kernel) f2 (by decide) k2 r2 p2) (.cons _ _ _ _ _ (sd_chars (by decide +kernel) f3 (by decide) r3 n_y (by decide)) (.nil _))))
set_option maxRecDepth 100000 in
theorem okC : shapeOK sC4.nodes 8 3 = true ∧ shapeS sC4.nodes 8 3 = ⟨#[98, 111, 100, 121, 40, 97, 40, 120, 41, 97, 40, 121, 41, 41]⟩ := by decide +kernel
def sD1 : St := St.item sA0 [n_li] (tStart n_li)
def sD2 : St := St.item sD1 [n_li] (tStart n_li)
set_option maxRecDepth 100000 in
theorem doD : DoAll b a st l sA0 [tStart n_li, tStart n_li] sD2 := by
  have f0 : Fine 4 sA0 := fine_opened
  have tl := tagS (name := n_li) (by decide) (by decide)
  have f1 : Fine 5 sD1 := fine_item f0 _ tl
  exact .cons _ _ _ _ _ (sd_li (by decide +kernel) f0 (by decide)) (.cons _ _ _ _ _ (sd_li (by decide +kernel) f1 (by decide)) (.nil _))
set_option maxRecDepth 100000 in
theorem okD : shapeOK sD2.nodes 8 3 = true ∧ shapeS sD2.nodes 8 3 = ⟨#[98, 111, 100, 121, 40, 108, 105, 40, 41, 108, 105, 40, 41, 41]⟩ := by decide +kernel
def sE1 : St := St.endBr sA0
def sE2 : St := St.endP sE1
set_option maxRecDepth 100000 in
theorem doE : DoAll b a st l sA0 [tEnd n_br, tEnd n_p] sE2 := by
  have f0 : Fine 4 sA0 := fine_opened
  have r0 : Reb sA0 := by unfold Reb; decide +kernel
  have f1 : Fine 5 sE1 := fine_endBr f0 r0
  exact .cons _ _ _ _ _ (sd_endBr (by decide +kernel) f0 (by decide) r0) (.cons _ _ _ _ _ (sd_endP (by decide +kernel) f1 (by decide)) (.nil _))
set_option maxRecDepth 100000 in
theorem okE : shapeOK sE2.nodes 8 3 = true ∧ shapeS sE2.nodes 8 3 = ⟨#[98, 111, 100, 121, 40, 98, 114, 40, 41, 112, 40, 41, 41]⟩ := by decide +kernel
end Go.Proofs.YtgaebaokcjhcdaaGreatDoor

/- The law's stands: the chapter's tokens do what they say. Printed by genstands.py. -/
set_option linter.unusedVariables false
set_option linter.unusedSimpArgs false
namespace Go.Proofs.YtgaebaokcjhcdaaGreatDoor
open Go.RowKit Lz

theorem tokRow_new (W : World) (ts : List Tok) (hl : ts.length ≤ 1000) : TokRow (W.alloc (.cells (ts.flatMap tokCl).toArray 24 (0, 0))) W.heap.size ts := by
  refine ⟨hl, _, _, heap_alloc_new W _, fun i j hi hj => ?_⟩
  rw [List.getElem?_toArray]
  have : ∀ (l : List Tok) (i : Nat), i < l.length → (l.flatMap tokCl)[i * 9 + j]? = (tokCl (l.getD i {}))[j]? := by
    intro l
    induction l with
    | nil => intro i hi; simp at hi
    | cons t r ih =>
      intro i hi
      rw [List.flatMap_cons]
      have hln : (tokCl t).length = 9 := rfl
      cases i with
      | zero => rw [List.getElem?_append_left (by rw [hln]; omega)]; simp
      | succ i =>
        rw [List.getElem?_append_right (by rw [hln]; omega), hln]
        have e : (i + 1) * 9 + j - 9 = i * 9 + j := by omega
        rw [e, ih i (by simpa using hi)]
        rfl
  exact this ts i hi
set_option maxRecDepth 100000 in
set_option maxHeartbeats 8000000 in
theorem stands_c (w : World) (hB : Base w) : Calls Tryz.prog 10 #[] w fun e w' => e = .returned (.bool true) ∧ Bel w w' := by
  have HW : Bel w w := Below.refl _ _
  have HB := hB
  clear hB
  go_enter Tryz.func10, Tryz.ntmps10
  go_wp2_with fail
  refine (start_c _ _).mono ?_
  rintro e w1 ⟨rfl, hb⟩
  replace HB := Base.bel HB hb
  replace HW := bel_tr HW hb
  clear hb
  go_wp2_with fail
  refine (chars_c _ _).mono ?_
  rintro e w2 ⟨rfl, hb⟩
  replace HB := Base.bel HB hb
  replace HW := bel_tr HW hb
  clear hb
  go_wp2_with fail
  refine (start_c _ _).mono ?_
  rintro e w3 ⟨rfl, hb⟩
  replace HB := Base.bel HB hb
  replace HW := bel_tr HW hb
  clear hb
  go_wp2_with fail
  refine (chars_c _ _).mono ?_
  rintro e w4 ⟨rfl, hb⟩
  replace HB := Base.bel HB hb
  replace HW := bel_tr HW hb
  clear hb
  go_wp2_with fail
  have hA := bel_alloc w4 (.cells ([tStart n_p, tChars n_x, tStart n_p, tChars n_y].flatMap tokCl).toArray 24 (0, 0))
  refine (told_c (s' := sA4) (Base.bel HB hA) _ 4 [tStart n_p, tChars n_x, tStart n_p, tChars n_y] (tokRow_new _ [tStart n_p, tChars n_x, tStart n_p, tChars n_y] (by decide)) (fun b a st l => doA) 8 okA.1).mono ?_
  rw [okA.2]
  rintro e w5 ⟨rfl, hb⟩
  replace HB := (Base.bel HB hA).bel hb
  replace HW := bel_tr (bel_tr HW hA) hb
  clear hb hA
  go_wp2_with fail
  refine (start_c _ _).mono ?_
  rintro e w6 ⟨rfl, hb⟩
  replace HB := Base.bel HB hb
  replace HW := bel_tr HW hb
  clear hb
  go_wp2_with fail
  refine (chars_c _ _).mono ?_
  rintro e w7 ⟨rfl, hb⟩
  replace HB := Base.bel HB hb
  replace HW := bel_tr HW hb
  clear hb
  go_wp2_with fail
  refine (start_c _ _).mono ?_
  rintro e w8 ⟨rfl, hb⟩
  replace HB := Base.bel HB hb
  replace HW := bel_tr HW hb
  clear hb
  go_wp2_with fail
  refine (chars_c _ _).mono ?_
  rintro e w9 ⟨rfl, hb⟩
  replace HB := Base.bel HB hb
  replace HW := bel_tr HW hb
  clear hb
  go_wp2_with fail
  refine (end_c _ _).mono ?_
  rintro e w10 ⟨rfl, hb⟩
  replace HB := Base.bel HB hb
  replace HW := bel_tr HW hb
  clear hb
  go_wp2_with fail
  refine (chars_c _ _).mono ?_
  rintro e w11 ⟨rfl, hb⟩
  replace HB := Base.bel HB hb
  replace HW := bel_tr HW hb
  clear hb
  go_wp2_with fail
  have hA := bel_alloc w11 (.cells ([tStart n_b, tChars n_x, tStart n_p, tChars n_y, tEnd n_b, tChars n_z].flatMap tokCl).toArray 24 (0, 0))
  refine (told_c (s' := sB6) (Base.bel HB hA) _ 6 [tStart n_b, tChars n_x, tStart n_p, tChars n_y, tEnd n_b, tChars n_z] (tokRow_new _ [tStart n_b, tChars n_x, tStart n_p, tChars n_y, tEnd n_b, tChars n_z] (by decide)) (fun b a st l => doB) 8 okB.1).mono ?_
  rw [okB.2]
  rintro e w12 ⟨rfl, hb⟩
  replace HB := (Base.bel HB hA).bel hb
  replace HW := bel_tr (bel_tr HW hA) hb
  clear hb hA
  go_wp2_with fail
  refine (start_c _ _).mono ?_
  rintro e w13 ⟨rfl, hb⟩
  replace HB := Base.bel HB hb
  replace HW := bel_tr HW hb
  clear hb
  go_wp2_with fail
  refine (chars_c _ _).mono ?_
  rintro e w14 ⟨rfl, hb⟩
  replace HB := Base.bel HB hb
  replace HW := bel_tr HW hb
  clear hb
  go_wp2_with fail
  refine (start_c _ _).mono ?_
  rintro e w15 ⟨rfl, hb⟩
  replace HB := Base.bel HB hb
  replace HW := bel_tr HW hb
  clear hb
  go_wp2_with fail
  refine (chars_c _ _).mono ?_
  rintro e w16 ⟨rfl, hb⟩
  replace HB := Base.bel HB hb
  replace HW := bel_tr HW hb
  clear hb
  go_wp2_with fail
  have hA := bel_alloc w16 (.cells ([tStart n_a, tChars n_x, tStart n_a, tChars n_y].flatMap tokCl).toArray 24 (0, 0))
  refine (told_c (s' := sC4) (Base.bel HB hA) _ 4 [tStart n_a, tChars n_x, tStart n_a, tChars n_y] (tokRow_new _ [tStart n_a, tChars n_x, tStart n_a, tChars n_y] (by decide)) (fun b a st l => doC) 8 okC.1).mono ?_
  rw [okC.2]
  rintro e w17 ⟨rfl, hb⟩
  replace HB := (Base.bel HB hA).bel hb
  replace HW := bel_tr (bel_tr HW hA) hb
  clear hb hA
  go_wp2_with fail
  refine (start_c _ _).mono ?_
  rintro e w18 ⟨rfl, hb⟩
  replace HB := Base.bel HB hb
  replace HW := bel_tr HW hb
  clear hb
  go_wp2_with fail
  refine (start_c _ _).mono ?_
  rintro e w19 ⟨rfl, hb⟩
  replace HB := Base.bel HB hb
  replace HW := bel_tr HW hb
  clear hb
  go_wp2_with fail
  have hA := bel_alloc w19 (.cells ([tStart n_li, tStart n_li].flatMap tokCl).toArray 24 (0, 0))
  refine (told_c (s' := sD2) (Base.bel HB hA) _ 2 [tStart n_li, tStart n_li] (tokRow_new _ [tStart n_li, tStart n_li] (by decide)) (fun b a st l => doD) 8 okD.1).mono ?_
  rw [okD.2]
  rintro e w20 ⟨rfl, hb⟩
  replace HB := (Base.bel HB hA).bel hb
  replace HW := bel_tr (bel_tr HW hA) hb
  clear hb hA
  go_wp2_with fail
  refine (end_c _ _).mono ?_
  rintro e w21 ⟨rfl, hb⟩
  replace HB := Base.bel HB hb
  replace HW := bel_tr HW hb
  clear hb
  go_wp2_with fail
  refine (end_c _ _).mono ?_
  rintro e w22 ⟨rfl, hb⟩
  replace HB := Base.bel HB hb
  replace HW := bel_tr HW hb
  clear hb
  go_wp2_with fail
  have hA := bel_alloc w22 (.cells ([tEnd n_br, tEnd n_p].flatMap tokCl).toArray 24 (0, 0))
  refine (told_c (s' := sE2) (Base.bel HB hA) _ 2 [tEnd n_br, tEnd n_p] (tokRow_new _ [tEnd n_br, tEnd n_p] (by decide)) (fun b a st l => doE) 8 okE.1).mono ?_
  rw [okE.2]
  rintro e w23 ⟨rfl, hb⟩
  replace HB := (Base.bel HB hA).bel hb
  replace HW := bel_tr (bel_tr HW hA) hb
  clear hb hA
  go_wp2
  go_ret
  exact ⟨rfl, HW⟩
end Go.Proofs.YtgaebaokcjhcdaaGreatDoor
