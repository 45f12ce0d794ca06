/- The stack: Has, HasNode. -/
import Derived.Test.YtgaebaokcjhcdaaGreatDoorM05
import Derived.Laws.CopyRow

set_option linter.unusedVariables false
set_option linter.unusedSimpArgs false
namespace Go.Proofs.YtgaebaokcjhcdaaGreatDoor
open Go.RowKit Go.Shelf Lz
attribute [local go_sem] Oper.semAt_some
variable {w : World} {F : Nat → Prop} {st a : Nat} {s : St}

/-- 'Block B holds these cells' speaks of cells alone. -/
theorem cells_own {β : Type} (B : Nat) (f : β → Array Value) (t : TypeId) (fr : Nat × Nat) : Own (fun s W => W.heap[B]? = some (.cells (f s) t fr)) := fun s X Y row hs hg hrow => by
  refine (hg.block B (Array.getElem?_eq_some_iff.1 hs).1 (fun e => ?_)).trans hs
  obtain ⟨o, ho, hc⟩ := hrow B e.symm
  rw [show X.heap[B]? = _ from hs] at ho
  cases ho; cases hc
theorem kcK_b {w : World} (W : World) (l : Nat) (o o' : Obj) (_ : w.heap.size ≤ l) (h : W.heap[l]? = some o) (hc : o.isCells = false) (_ : o.isWalk = false) : KC W (W.putObj l o') := KC.put h hc
theorem bel_grown {A B : World} (hb : Bel A B) : A.grownBy B none := ⟨hb.os, hb.tape, hb.output, hb.size, fun k hk _ => hb.block k hk⟩

abbrev stopAt (s : St) (which : Int) : Nat → Bool := fun k => scopeK which (s.el k).space (s.el k).name
theorem sScope_stops (n : Nat) (hn : 1 ≤ n) (B1 B2 : Nat) (which : Int) (h : StackRep w F st a s.stk) (hg : Glob w) (hN : ∀ k, (s.el k).name.size < 1000000)
    (h1 : w.cell? ⟨B1, 0, none⟩ = some (.pointer (some ⟨st, 0, none⟩))) (h2 : w.cell? ⟨B2, 0, none⟩ = some (.int .i64 which)) (l1 : B1 < w.heap.size) (l2 : B2 < w.heap.size) :
    SeqStopsK Fence.wide n Tryz.prog 205 #[.pointer (some ⟨B1, 0, none⟩), .pointer (some ⟨B2, 0, none⟩)] (fun o : OpEl => #[Value.agg #[.int .i64 o.node, .int .i64 o.space, .string o.name]]) KC
      (fun ys => ys = reach s.el (stopAt s which) s.stk.length) (fun pre => pre <+: reach s.el (stopAt s which) s.stk.length) (reach s.el (stopAt s which) s.stk.length).length w :=
  fun l J Jx W hW hJ _ hY h0 => sScope1_in n hn l B1 B2 st a F s which J Jx W (h.bel hW) (hg.bel hW) hN (fun pre A B hj hb => hJ pre A B none hj (bel_grown hb) (by simp)) hY
    ((hW.cell (p := ⟨B1, 0, none⟩) l1).trans h1) ((hW.cell (p := ⟨B2, 0, none⟩) l2).trans h2) h0

set_option maxRecDepth 100000 in
set_option maxHeartbeats 2000000 in
theorem sHas_c (h : StackRep w F st a s.stk) (hg : Glob w) (hN : ∀ k, (s.el k).name.size < 1000000) (which : Int) (v : Value) (names : List Str) (hn : StrRow w v names) :
    Calls Tryz.prog 145 #[.pointer (some ⟨st, 0, none⟩), .int .i64 which, v] w fun e w' => e = .returned (.bool (s.has which names)) ∧ Bel w w' := by
  have hhas : s.has which names = (reach s.el (stopAt s which) s.stk.length).any (fun o => St.htmlEl o names) := scopeFind_any s.el (stopAt s which) (fun o => St.htmlEl o names) s.stk.length
  rw [hhas]
  refine (callsIn_wide (n := 9)).1 ?_
  refine callsIn_of_wp_marks Tryz.func145 rfl trivial ?_ rfl
  simp only [Tryz.ntmps145, List.size_toArray, List.length_cons, List.length_nil, Nat.reduceAdd, Nat.reduceSub, Array.replicate_succ, Array.replicate_zero, List.push_toArray, List.append_toArray, List.nil_append, List.cons_append]
  obtain ⟨A, cap, rfl, _⟩ := hn.form
  gi_wp2_with (refine ⟨trivial, ?_⟩; gi_at_call 184; refine (callsIn_wide.2 (sScope_c _ _ _)).mono ?_; rintro e w' ⟨rfl, rfl⟩)
  have hB0 : Bel w ((((w.alloc (.cells #[.slice A names.length cap] 40)).alloc (.cells #[.bool false] 4)).alloc (.cells #[.pointer (some ⟨st, 0, none⟩)] 27)).alloc (.cells #[.int .i64 which] 3)) := bel_al (bel_al (bel_al (bel_al (Below.refl _ _))))
  have b5 : ((((w.alloc (.cells #[.slice A names.length cap] 40)).alloc (.cells #[.bool false] 4)).alloc (.cells #[.pointer (some ⟨st, 0, none⟩)] 27)).alloc (.cells #[.int .i64 which] 3)).heap[w.heap.size]? = some (.cells #[.slice A names.length cap] 40 (0, 0)) := by
    refine (Below.heap_alloc _ _ _ (by simp <;> omega)).trans ((Below.heap_alloc _ _ _ (by simp <;> omega)).trans ((Below.heap_alloc _ _ _ (by simp)).trans (heap_alloc_new w _)))
  have b6 : ((((w.alloc (.cells #[.slice A names.length cap] 40)).alloc (.cells #[.bool false] 4)).alloc (.cells #[.pointer (some ⟨st, 0, none⟩)] 27)).alloc (.cells #[.int .i64 which] 3)).heap[w.heap.size + 1]? = some (.cells #[.bool false] 4 (0, 0)) := by
    refine (Below.heap_alloc _ _ _ (by simp)).trans ((Below.heap_alloc _ _ _ (by simp)).trans ?_)
    have := heap_alloc_new (w.alloc (.cells #[.slice A names.length cap] 40)) (.cells #[.bool false] 4)
    simpa using this
  have b7 : ((((w.alloc (.cells #[.slice A names.length cap] 40)).alloc (.cells #[.bool false] 4)).alloc (.cells #[.pointer (some ⟨st, 0, none⟩)] 27)).alloc (.cells #[.int .i64 which] 3)).heap[w.heap.size + 1 + 1]? = some (.cells #[.pointer (some ⟨st, 0, none⟩)] 27 (0, 0)) := by
    refine (Below.heap_alloc _ _ _ (by simp)).trans ?_
    have := heap_alloc_new ((w.alloc (.cells #[.slice A names.length cap] 40)).alloc (.cells #[.bool false] 4)) (.cells #[.pointer (some ⟨st, 0, none⟩)] 27)
    simpa using this
  have b8 : ((((w.alloc (.cells #[.slice A names.length cap] 40)).alloc (.cells #[.bool false] 4)).alloc (.cells #[.pointer (some ⟨st, 0, none⟩)] 27)).alloc (.cells #[.int .i64 which] 3)).heap[w.heap.size + 1 + 1 + 1]? = some (.cells #[.int .i64 which] 3 (0, 0)) := by
    have := heap_alloc_new (((w.alloc (.cells #[.slice A names.length cap] 40)).alloc (.cells #[.bool false] 4)).alloc (.cells #[.pointer (some ⟨st, 0, none⟩)] 27)) (.cells #[.int .i64 which] 3)
    simpa using this
  have hsz : ((((w.alloc (.cells #[.slice A names.length cap] 40)).alloc (.cells #[.bool false] 4)).alloc (.cells #[.pointer (some ⟨st, 0, none⟩)] 27)).alloc (.cells #[.int .i64 which] 3)).heap.size = w.heap.size + 4 := by simp
  obtain ⟨W0, hW0⟩ : ∃ W0, ((((w.alloc (.cells #[.slice A names.length cap] 40)).alloc (.cells #[.bool false] 4)).alloc (.cells #[.pointer (some ⟨st, 0, none⟩)] 27)).alloc (.cells #[.int .i64 which] 3)) = W0 := ⟨_, rfl⟩
  rw [hW0] at hB0 b5 b6 b7 b8 hsz ⊢
  clear hW0
  have hS := sScope_stops (n := 8) (by omega) (w.heap.size + 1 + 1) (w.heap.size + 1 + 1 + 1) which (h.bel hB0) (hg.bel hB0) hN (blk_cell b7 0) (blk_cell b8 0) (by omega) (by omega)

  refine wpIn_rangeFunc_ownH rfl (by omega) (gf := 205) (lb := #[.pointer (some ⟨w.heap.size + 1 + 1, 0, none⟩), .pointer (some ⟨w.heap.size + 1 + 1 + 1, 0, none⟩)]) rfl trivial (enters_of Tryz.func205 (by kernel_rfl) rfl)
    hS kcK_t kcK_b (Below.refl _ _) (fun _ => rfl)
    (fun pre W => ((pre.any (fun o => St.htmlEl o names) = false ∧ W.heap[w.heap.size + 1]? = some (.cells #[.bool false] 4 (0, 0))) ∧ W.heap[w.heap.size]? = some (.cells #[.slice A names.length cap] 40 (0, 0))) ∧ Below w.heap.size w W)
    (fun c pre W => ((c = .ret ∧ pre.any (fun o => St.htmlEl o names) = true) ∧ W.heap[w.heap.size + 1]? = some (.cells #[.bool true] 4 (0, 0))) ∧ Below w.heap.size w W)
    (OwnFrom.and (OwnFrom.and (OwnFrom.and (ownFrom_pure _ _) (Own.from (cells_own _ _ _ _) _)) (Own.from (cells_own _ _ _ _) _)) (ownFrom_below (Nat.le_refl _) (by omega)))
    (fun c => OwnFrom.and (OwnFrom.and (ownFrom_pure _ _) (Own.from (cells_own _ _ _ _) _)) (ownFrom_below (Nat.le_refl _) (by omega)))
    ⟨⟨⟨rfl, b6⟩, b5⟩, hB0⟩
    (fun x a' W => ∃ Bx, w.heap.size + 1 < Bx ∧ W.heap[Bx]? = some (.cells #[.int .i64 x.node, .int .i64 x.space, .string x.name] 116 (0, 0)) ∧ a' = { tmps := #[.pointer (some ⟨st, 0, none⟩), .int .i64 which, .slice A names.length cap, undef, undef, .pointer (some ⟨w.heap.size, 0, none⟩), .pointer (some ⟨w.heap.size + 1, 0, none⟩), .pointer (some ⟨Bx, 0, none⟩), .pointer (some ⟨st, 0, none⟩), .int .i64 which, .func (.func 205) #[] #[.pointer (some ⟨w.heap.size + 1 + 1, 0, none⟩), .pointer (some ⟨w.heap.size + 1 + 1 + 1, 0, none⟩)], .agg #[.int .i64 x.node, .int .i64 x.space, .string x.name], undef, undef, undef], defers := [] })
    (fun x a' _ X Y row hs hg hr => by obtain ⟨Bx, h1, h2, h3⟩ := hs; exact ⟨Bx, h1, cells_own Bx (fun (_ : Unit) => #[.int .i64 x.node, .int .i64 x.space, .string x.name]) 116 (0, 0) () X Y row h2 hg (fun r e => (hr r e).2), h3⟩)
    ?assign ?body ?done ?stop
  case assign =>
    rintro l pre x W K ⟨⟨⟨hp, k6⟩, k5⟩, hB1⟩ hK
    have hlt := hB1.size
    have z6 := (Array.getElem?_eq_some_iff.1 k6).1
    gi_wp2
    exact hK _ _ ((KeepsOthers.alloc _ _).from _) (KC.of_bel (bel_alloc _ _)) ⟨⟨⟨hp, (Below.heap_alloc _ _ _ z6).trans k6⟩, (Below.heap_alloc _ _ _ (by omega)).trans k5⟩, hB1.alloc hlt _⟩ ⟨W.heap.size, by omega, heap_alloc_new W _, rfl⟩
  case body =>
    rintro l pre x a' W hl hr ⟨⟨⟨hp, k6⟩, k5⟩, hB1⟩ ⟨Bx, hBx, bX, rfl⟩ hlt
    have c5 := blk_cell k5 0
    have c6 := blk_cell k6 0
    have f6 := blk_frozen k6 0
    have x0 := blk_cell bX 0
    have x1 := blk_cell bX 1
    have x2 := blk_cell bX 2
    simp only [List.getElem?_toArray, List.getElem?_cons_succ, List.getElem?_cons_zero] at c5 c6 x0 x1 x2
    have hH := openHtml_c W x (.slice A names.length cap) names (hn.bel hB1)
    cases hbt : St.htmlEl x names
    · rw [hbt] at hH
      have HH := Lib.hid hH; have HB := Lib.hid hbt; have HP := Lib.hid hp; have K6 := Lib.hid k6; have K5 := Lib.hid k5
      clear hH hbt hp k6 k5
      gi_wp2_with (refine ⟨trivial, ?_⟩; gi_at_call 172; refine (CallsIn.inRound l (callsIn_wide.2 HH.out)).mono ?_; rintro e w' ⟨rfl, hb⟩)
      have z6 := (Array.getElem?_eq_some_iff.1 K6.out).1
      refine ⟨⟨hb.size, fun k o _ hk _ => (hb.block k (Array.getElem?_eq_some_iff.1 hk).1).trans hk⟩, KC.of_bel hb, ⟨⟨by simp [HP.out, HB.out], (hb.block _ z6).trans K6.out⟩, (hb.block _ (by omega)).trans K5.out⟩, hB1.trans (hb.mono hB1.size)⟩
    · rw [hbt] at hH
      have HH := Lib.hid hH; have HB := Lib.hid hbt; have HP := Lib.hid hp; have K6 := Lib.hid k6; have K5 := Lib.hid k5
      clear hH hbt hp k6 k5
      gi_wp2_with (refine ⟨trivial, ?_⟩; gi_at_call 172; refine (CallsIn.inRound l (callsIn_wide.2 HH.out)).mono ?_; rintro e w' ⟨rfl, hb⟩; have d6 := (hb.block (w.heap.size + 1) ((Array.getElem?_eq_some_iff.1 K6.out).1)).trans K6.out; have D6 := Lib.hid d6; have cd := blk_cell d6 0; have fd := blk_frozen d6 0; clear d6; simp only [List.getElem?_toArray, List.getElem?_cons_zero] at cd)
      have hkf : KeepsFrom W0.heap.size W (w'.setCell ⟨w.heap.size + 1, 0, none⟩ (.bool true)) := ⟨by simpa using hb.size, fun k o hB hk ho => (Below.heap_setCell _ _ _ _ (by intro e; have e : k = w.heap.size + 1 := e; omega)).trans ((hb.block k (Array.getElem?_eq_some_iff.1 hk).1).trans hk)⟩
      refine ⟨hkf, ⟨⟨rfl, by simp [HB.out]⟩, ?_⟩, (hB1.trans (hb.mono hB1.size)).setCell (p := ⟨w.heap.size + 1, 0, none⟩) (by simp) _⟩
      rw [heap_setCell_same _ _ _ _ _ _ D6.out]; rfl
  case done =>
    rintro D ys W hD rfl ⟨⟨⟨hp, k6⟩, k5⟩, hB1⟩ hK
    have c6 := blk_cell k6 0
    have f6 := blk_frozen k6 0
    simp only [List.getElem?_toArray, List.getElem?_cons_succ, List.getElem?_cons_zero] at c6
    have HP := Lib.hid hp; have K6 := Lib.hid k6; have HK := Lib.hid hK
    clear hp k6 k5 hK
    gi_wp2
    have hK' := (KeepsOthers.setCell W ⟨w.heap.size + 1, 0, none⟩ (.bool false)).same D _ HK.out rfl
    refine ⟨by simp, .inl ⟨_, _, rfl, run_takeDeferred hK', ?_⟩⟩
    have hc5 := cell_kept (World.cell?_setCell_same' W ⟨w.heap.size + 1, 0, none⟩ (.bool false) (by rw [c6]; rfl)) (grownBy_putObj' _ D (.deferred none)) (fun r e => by cases e; exact ⟨_, hK', rfl⟩)
    refine ⟨.bool false, ?_, by rw [HP.out], (hB1.setCell (p := ⟨w.heap.size + 1, 0, none⟩) (by simp) _).trans (belowK_b (w := w) (Nat.le_refl _) _ D _ _ (by omega) hK' rfl rfl)⟩
    simp [results, Tryz.f145, go_sem, hc5]
  case stop =>
    rintro D c pre W hD hpre ⟨⟨⟨rfl, hp⟩, k6⟩, hB1⟩ hK
    have c6 := blk_cell k6 0
    simp only [List.getElem?_toArray, List.getElem?_cons_succ, List.getElem?_cons_zero] at c6
    have HP := Lib.hid hp; have HQ := Lib.hid hpre; have HK := Lib.hid hK
    clear hp k6 hpre hK
    gi_wp2
    refine ⟨by simp, .inl ⟨_, _, rfl, run_takeDeferred HK.out, ?_⟩⟩
    have hc5 := cell_kept c6 (grownBy_putObj' _ D (.deferred none)) (fun r e => by cases e; exact ⟨_, HK.out, rfl⟩)
    have hany : (reach s.el (stopAt s which) s.stk.length).any (fun o => St.htmlEl o names) = true := by
      obtain ⟨o, ho, hh⟩ := List.any_eq_true.1 HP.out
      exact List.any_eq_true.2 ⟨o, HQ.out.subset ho, hh⟩
    refine ⟨.bool true, ?_, by rw [hany], hB1.trans (belowK_b (w := w) (Nat.le_refl _) W D _ _ (by omega) HK.out rfl rfl)⟩
    simp [results, Tryz.f145, go_sem, hc5]
set_option maxRecDepth 100000 in
set_option maxHeartbeats 2000000 in
theorem sHasNode_c (h : StackRep w F st a s.stk) (hg : Glob w) (hN : ∀ k, (s.el k).name.size < 1000000) (which i : Int) :
    Calls Tryz.prog 155 #[.pointer (some ⟨st, 0, none⟩), .int .i64 which, .int .i64 i] w fun e w' => e = .returned (.bool (s.hasNode which i)) ∧ Bel w w' := by
  have hhas : s.hasNode which i = (reach s.el (stopAt s which) s.stk.length).any (fun o => o.node == i) := scopeFind_any s.el (stopAt s which) (fun o => o.node == i) s.stk.length
  rw [hhas]
  refine (callsIn_wide (n := 9)).1 ?_
  refine callsIn_of_wp_marks Tryz.func155 rfl trivial ?_ rfl
  simp only [Tryz.ntmps155, List.size_toArray, List.length_cons, List.length_nil, Nat.reduceAdd, Nat.reduceSub, Array.replicate_succ, Array.replicate_zero, List.push_toArray, List.append_toArray, List.nil_append, List.cons_append]
  gi_wp2_with (refine ⟨trivial, ?_⟩; gi_at_call 184; refine (callsIn_wide.2 (sScope_c _ _ _)).mono ?_; rintro e w' ⟨rfl, rfl⟩)
  have hB0 : Bel w ((((w.alloc (.cells #[.int .i64 i] 3)).alloc (.cells #[.bool false] 4)).alloc (.cells #[.pointer (some ⟨st, 0, none⟩)] 27)).alloc (.cells #[.int .i64 which] 3)) := bel_al (bel_al (bel_al (bel_al (Below.refl _ _))))
  have b5 : ((((w.alloc (.cells #[.int .i64 i] 3)).alloc (.cells #[.bool false] 4)).alloc (.cells #[.pointer (some ⟨st, 0, none⟩)] 27)).alloc (.cells #[.int .i64 which] 3)).heap[w.heap.size]? = some (.cells #[.int .i64 i] 3 (0, 0)) := by
    refine (Below.heap_alloc _ _ _ (by simp <;> omega)).trans ((Below.heap_alloc _ _ _ (by simp <;> omega)).trans ((Below.heap_alloc _ _ _ (by simp)).trans (heap_alloc_new w _)))
  have b6 : ((((w.alloc (.cells #[.int .i64 i] 3)).alloc (.cells #[.bool false] 4)).alloc (.cells #[.pointer (some ⟨st, 0, none⟩)] 27)).alloc (.cells #[.int .i64 which] 3)).heap[w.heap.size + 1]? = some (.cells #[.bool false] 4 (0, 0)) := by
    refine (Below.heap_alloc _ _ _ (by simp)).trans ((Below.heap_alloc _ _ _ (by simp)).trans ?_)
    have := heap_alloc_new (w.alloc (.cells #[.int .i64 i] 3)) (.cells #[.bool false] 4)
    simpa using this
  have b7 : ((((w.alloc (.cells #[.int .i64 i] 3)).alloc (.cells #[.bool false] 4)).alloc (.cells #[.pointer (some ⟨st, 0, none⟩)] 27)).alloc (.cells #[.int .i64 which] 3)).heap[w.heap.size + 1 + 1]? = some (.cells #[.pointer (some ⟨st, 0, none⟩)] 27 (0, 0)) := by
    refine (Below.heap_alloc _ _ _ (by simp)).trans ?_
    have := heap_alloc_new ((w.alloc (.cells #[.int .i64 i] 3)).alloc (.cells #[.bool false] 4)) (.cells #[.pointer (some ⟨st, 0, none⟩)] 27)
    simpa using this
  have b8 : ((((w.alloc (.cells #[.int .i64 i] 3)).alloc (.cells #[.bool false] 4)).alloc (.cells #[.pointer (some ⟨st, 0, none⟩)] 27)).alloc (.cells #[.int .i64 which] 3)).heap[w.heap.size + 1 + 1 + 1]? = some (.cells #[.int .i64 which] 3 (0, 0)) := by
    have := heap_alloc_new (((w.alloc (.cells #[.int .i64 i] 3)).alloc (.cells #[.bool false] 4)).alloc (.cells #[.pointer (some ⟨st, 0, none⟩)] 27)) (.cells #[.int .i64 which] 3)
    simpa using this
  have hsz : ((((w.alloc (.cells #[.int .i64 i] 3)).alloc (.cells #[.bool false] 4)).alloc (.cells #[.pointer (some ⟨st, 0, none⟩)] 27)).alloc (.cells #[.int .i64 which] 3)).heap.size = w.heap.size + 4 := by simp
  obtain ⟨W0, hW0⟩ : ∃ W0, ((((w.alloc (.cells #[.int .i64 i] 3)).alloc (.cells #[.bool false] 4)).alloc (.cells #[.pointer (some ⟨st, 0, none⟩)] 27)).alloc (.cells #[.int .i64 which] 3)) = W0 := ⟨_, rfl⟩
  rw [hW0] at hB0 b5 b6 b7 b8 hsz ⊢
  clear hW0
  have hS := sScope_stops (n := 8) (by omega) (w.heap.size + 1 + 1) (w.heap.size + 1 + 1 + 1) which (h.bel hB0) (hg.bel hB0) hN (blk_cell b7 0) (blk_cell b8 0) (by omega) (by omega)

  refine wpIn_rangeFunc_ownH rfl (by omega) (gf := 205) (lb := #[.pointer (some ⟨w.heap.size + 1 + 1, 0, none⟩), .pointer (some ⟨w.heap.size + 1 + 1 + 1, 0, none⟩)]) rfl trivial (enters_of Tryz.func205 (by kernel_rfl) rfl)
    hS kcK_t kcK_b (Below.refl _ _) (fun _ => rfl)
    (fun pre W => ((pre.any (fun o => o.node == i) = false ∧ W.heap[w.heap.size + 1]? = some (.cells #[.bool false] 4 (0, 0))) ∧ W.heap[w.heap.size]? = some (.cells #[.int .i64 i] 3 (0, 0))) ∧ Below w.heap.size w W)
    (fun c pre W => ((c = .ret ∧ pre.any (fun o => o.node == i) = true) ∧ W.heap[w.heap.size + 1]? = some (.cells #[.bool true] 4 (0, 0))) ∧ Below w.heap.size w W)
    (OwnFrom.and (OwnFrom.and (OwnFrom.and (ownFrom_pure _ _) (Own.from (cells_own _ _ _ _) _)) (Own.from (cells_own _ _ _ _) _)) (ownFrom_below (Nat.le_refl _) (by omega)))
    (fun c => OwnFrom.and (OwnFrom.and (ownFrom_pure _ _) (Own.from (cells_own _ _ _ _) _)) (ownFrom_below (Nat.le_refl _) (by omega)))
    ⟨⟨⟨rfl, b6⟩, b5⟩, hB0⟩
    (fun x a' W => ∃ Bx, w.heap.size + 1 < Bx ∧ W.heap[Bx]? = some (.cells #[.int .i64 x.node, .int .i64 x.space, .string x.name] 116 (0, 0)) ∧ a' = { tmps := #[.pointer (some ⟨st, 0, none⟩), .int .i64 which, .int .i64 i, undef, undef, .pointer (some ⟨w.heap.size, 0, none⟩), .pointer (some ⟨w.heap.size + 1, 0, none⟩), .pointer (some ⟨Bx, 0, none⟩), .pointer (some ⟨st, 0, none⟩), .int .i64 which, .func (.func 205) #[] #[.pointer (some ⟨w.heap.size + 1 + 1, 0, none⟩), .pointer (some ⟨w.heap.size + 1 + 1 + 1, 0, none⟩)], .agg #[.int .i64 x.node, .int .i64 x.space, .string x.name], undef, undef, undef, undef], defers := [] })
    (fun x a' _ X Y row hs hg hr => by obtain ⟨Bx, h1, h2, h3⟩ := hs; exact ⟨Bx, h1, cells_own Bx (fun (_ : Unit) => #[.int .i64 x.node, .int .i64 x.space, .string x.name]) 116 (0, 0) () X Y row h2 hg (fun r e => (hr r e).2), h3⟩)
    ?assign ?body ?done ?stop
  case assign =>
    rintro l pre x W K ⟨⟨⟨hp, k6⟩, k5⟩, hB1⟩ hK
    have hlt := hB1.size
    have z6 := (Array.getElem?_eq_some_iff.1 k6).1
    gi_wp2
    exact hK _ _ ((KeepsOthers.alloc _ _).from _) (KC.of_bel (bel_alloc _ _)) ⟨⟨⟨hp, (Below.heap_alloc _ _ _ z6).trans k6⟩, (Below.heap_alloc _ _ _ (by omega)).trans k5⟩, hB1.alloc hlt _⟩ ⟨W.heap.size, by omega, heap_alloc_new W _, rfl⟩
  case body =>
    rintro l pre x a' W hl hr ⟨⟨⟨hp, k6⟩, k5⟩, hB1⟩ ⟨Bx, hBx, bX, rfl⟩ hlt
    have c5 := blk_cell k5 0
    have c6 := blk_cell k6 0
    have f6 := blk_frozen k6 0
    have x0 := blk_cell bX 0
    have x1 := blk_cell bX 1
    have x2 := blk_cell bX 2
    simp only [List.getElem?_toArray, List.getElem?_cons_succ, List.getElem?_cons_zero] at c5 c6 x0 x1 x2
    cases hbt : x.node == i
    · have HB := Lib.hid hbt; have HP := Lib.hid hp; have K6 := Lib.hid k6; have K5 := Lib.hid k5
      clear hp k6 k5
      gi_wp2
      exact ⟨KeepsFrom.refl _ _, KC.refl _, ⟨⟨by simp [HP.out, HB.out], K6.out⟩, K5.out⟩, hB1⟩
    · have HB := Lib.hid hbt; have HP := Lib.hid hp; have K6 := Lib.hid k6; have K5 := Lib.hid k5
      clear hp k6 k5
      gi_wp2
      refine ⟨(KeepsOthers.setCell _ _ _).from _, ⟨⟨rfl, by simp [HB.out]⟩, ?_⟩, hB1.setCell (p := ⟨w.heap.size + 1, 0, none⟩) (by simp) _⟩
      rw [heap_setCell_same _ _ _ _ _ _ K6.out]; rfl
  case done =>
    rintro D ys W hD rfl ⟨⟨⟨hp, k6⟩, k5⟩, hB1⟩ hK
    have c6 := blk_cell k6 0
    have f6 := blk_frozen k6 0
    simp only [List.getElem?_toArray, List.getElem?_cons_succ, List.getElem?_cons_zero] at c6
    have HP := Lib.hid hp; have K6 := Lib.hid k6; have HK := Lib.hid hK
    clear hp k6 k5 hK
    gi_wp2
    have hK' := (KeepsOthers.setCell W ⟨w.heap.size + 1, 0, none⟩ (.bool false)).same D _ HK.out rfl
    refine ⟨by simp, .inl ⟨_, _, rfl, run_takeDeferred hK', ?_⟩⟩
    have hc5 := cell_kept (World.cell?_setCell_same' W ⟨w.heap.size + 1, 0, none⟩ (.bool false) (by rw [c6]; rfl)) (grownBy_putObj' _ D (.deferred none)) (fun r e => by cases e; exact ⟨_, hK', rfl⟩)
    refine ⟨.bool false, ?_, by rw [HP.out], (hB1.setCell (p := ⟨w.heap.size + 1, 0, none⟩) (by simp) _).trans (belowK_b (w := w) (Nat.le_refl _) _ D _ _ (by omega) hK' rfl rfl)⟩
    simp [results, Tryz.f155, go_sem, hc5]
  case stop =>
    rintro D c pre W hD hpre ⟨⟨⟨rfl, hp⟩, k6⟩, hB1⟩ hK
    have c6 := blk_cell k6 0
    simp only [List.getElem?_toArray, List.getElem?_cons_succ, List.getElem?_cons_zero] at c6
    have HP := Lib.hid hp; have HQ := Lib.hid hpre; have HK := Lib.hid hK
    clear hp k6 hpre hK
    gi_wp2
    refine ⟨by simp, .inl ⟨_, _, rfl, run_takeDeferred HK.out, ?_⟩⟩
    have hc5 := cell_kept c6 (grownBy_putObj' _ D (.deferred none)) (fun r e => by cases e; exact ⟨_, HK.out, rfl⟩)
    have hany : (reach s.el (stopAt s which) s.stk.length).any (fun o => o.node == i) = true := by
      obtain ⟨o, ho, hh⟩ := List.any_eq_true.1 HP.out
      exact List.any_eq_true.2 ⟨o, HQ.out.subset ho, hh⟩
    refine ⟨.bool true, ?_, by rw [hany], hB1.trans (belowK_b (w := w) (Nat.le_refl _) W D _ _ (by omega) HK.out rfl rfl)⟩
    simp [results, Tryz.f155, go_sem, hc5]
end Go.Proofs.YtgaebaokcjhcdaaGreatDoor

/- The stack: drop, Implied, Thorough. -/
set_option linter.unusedVariables false
set_option linter.unusedSimpArgs false
namespace Go.Proofs.YtgaebaokcjhcdaaGreatDoor
open Go.RowKit Lz
variable {w : World} {F : Nat → Prop} {st a : Nat} {s : St}

theorem implied1_c (w : World) (B : Nat) (name but : Str) (hB : w.cell? ⟨B, 0, none⟩ = some (.string but)) (hg : Glob w) (hn : name.size < 1000000) :
    Calls Tryz.prog 159 #[.string name, .pointer (some ⟨B, 0, none⟩)] w fun e w' => e = .returned (.bool (name != but && impliedK name)) ∧ w = w' := by
  have K := implied_c w name hg hn
  have q := beqS name but
  generalize impliedK name = c at *
  have e : (name != but) = !(name == but) := rfl
  rw [e]
  have H := Lib.hid K; clear K e
  cases hb : name == but
  · rw [hb] at q
    have hne : ¬ name.toList = but.toList := by simpa using q
    clear hb
    go_enter Tryz.func159, Tryz.ntmps159
    go_wp2_with (go_at_call 160; with_reducible refine (H.out).mono ?_; rintro e w' ⟨rfl, rfl⟩)
    go_ret
    exact ⟨ret_bool (by simp), rfl⟩
  · rw [hb] at q
    have hne : name.toList = but.toList := by simpa using q
    clear hb
    go_enter Tryz.func159, Tryz.ntmps159
    go_wp2
    go_ret
    exact ⟨ret_bool (by simp), rfl⟩

theorem dropWhile_hit {so : Nat → Bool} {k : Nat} (h : so k = true) : dropWhile so (k + 1) = dropWhile so k := by simp [dropWhile, h]
theorem dropWhile_miss {so : Nat → Bool} {k : Nat} (h : so k = false) : dropWhile so (k + 1) = k + 1 := by simp [dropWhile, h]

set_option maxRecDepth 100000 in
set_option maxHeartbeats 2000000 in
theorem sDropImplied (h : StackRep w F st a s.stk) (hg : Glob w) (hF : ∀ k, F k → 6 ≤ k) (hN : ∀ k, (s.el k).name.size < 1000000) (B : Nat) (but : Str) (hB : w.heap[B]? = some (.cells #[.string but] 9 (0, 0))) (hBF : ¬ F B) :
    Calls Tryz.prog 158 #[.pointer (some ⟨st, 0, none⟩), .func (.func 159) #[] #[.pointer (some ⟨B, 0, none⟩)]] w fun e w' => e = .returned (.tuple #[]) ∧ Mut F w w' ∧ StackRep w' (grow F w w') st a (s.implied but).stk := by
  have hs := h.small
  have wk : IntKind.i64.wrap ((s.stk.length : Int) - 1) = (s.stk.length : Int) - 1 := IntWalk.i64_in _ (by omega)
  have HN := Lib.hid hN; have HB := Lib.hid hB; have HG := Lib.hid hg
  clear hN hB hg
  go_enter Tryz.func158, Tryz.ntmps158
  go_wp2_with (go_at_call 20; refine (sLen_c h).mono ?_; rintro e w' ⟨rfl, rfl⟩)
  go_loopw [4] (fun x wr => ∃ m : Nat, m ≤ s.stk.length ∧ x = .int .i64 ((m : Int) - 1) ∧ dropWhile (fun k => (s.el k).space == 0 && ((s.el k).name != but && impliedK (s.el k).name)) m = dropWhile (fun k => (s.el k).space == 0 && ((s.el k).name != but && impliedK (s.el k).name)) s.stk.length ∧ Mut F w wr ∧ StackRep wr (grow F w wr) st a (s.stk.take m)) (fun x wr => (intOf x + 1).toNat)
  case atStart => exact ⟨s.stk.length, Nat.le_refl _, rfl, rfl, Mut.refl _ _, by rw [List.take_length]; exact h.refl⟩
  case round =>
    obtain ⟨m, hm, rfl, hd, hmut, hR⟩ := hrel
    have hfin : m = dropWhile (fun k => (s.el k).space == 0 && ((s.el k).name != but && impliedK (s.el k).name)) s.stk.length → (s.implied but).stk = s.stk.take m := by
      intro e; unfold St.implied St.drop St.cut; simp only; rw [← e]
    cases m with
    | zero =>
      have HT := Lib.hid (hfin (by rw [← hd]; rfl))
      clear hd hfin
      go_wp2
      go_end0
      exact ⟨rfl, hmut, by rw [HT.out]; exact hR⟩
    | succ m =>
      have hR' := hR
      obtain ⟨A, cap, c0, c1, f1, hs', hr⟩ := hR'.form
      obtain ⟨vv, hv⟩ := hR
      have ev := hv.eqv c1
      subst ev
      have hl : (s.stk.take (m + 1)).length = m + 1 := by simp; omega
      rw [hl] at c1 hr
      obtain ⟨b, rfl, hc⟩ := hr (by omega)
      obtain ⟨d0, d1, d2⟩ := hc m (by omega)
      have ho : (s.stk.take (m + 1)).getD m {} = s.stk.getD m {} := by simp [List.getD_eq_getElem?_getD, List.getElem?_take_of_lt (Nat.lt_succ_self m)]
      rw [ho] at d0 d1 d2
      have e1 : ((m + 1 : Nat) : Int) - 1 = (m : Int) := by omega
      have wn : IntKind.i64.wrap ((m : Int) - 1) = (m : Int) - 1 := IntWalk.i64_in _ (by omega)
      have hnm : (s.stk.getD m {}).name.size < 1000000 := HN.out m
      have hcap := hv.row.cap_le (by omega)
      rw [hl] at hcap
      have hcap2 : (m : Int) ≤ (cap : Int) := by omega
      have hmi : (m : Int) < ((m : Int) + 1) := by omega
      have hmz : (0 : Int) ≤ (m : Int) := by omega
      have hcut := hv.cutTo m (by omega) (Below.refl _ _)
      have htt : (s.stk.take (m + 1)).take m = s.stk.take m := by rw [List.take_take]; congr 1; omega
      rw [htt] at hcut
      have hBlt := (Array.getElem?_eq_some_iff.1 HB.out).1
      have hIm := implied1_c wr B (s.stk.getD m {}).name but (blk_cell ((hmut.block B hBlt hBF).trans HB.out) 0) (HG.out.mut hmut hF) hnm
      have hso : (fun k => (s.el k).space == 0 && ((s.el k).name != but && impliedK (s.el k).name)) m = ((s.stk.getD m {}).space == 0 && ((s.stk.getD m {}).name != but && impliedK (s.stk.getD m {}).name)) := rfl
      rw [e1]
      have HC := Lib.hid hcut
      cases hbt : ((s.stk.getD m {}).name != but && impliedK (s.stk.getD m {}).name)
      · rw [hbt, Bool.and_false] at hso
        rw [hbt] at hIm
        rw [dropWhile_miss (so := fun k => (s.el k).space == 0 && ((s.el k).name != but && impliedK (s.el k).name)) hso] at hd
        have HT := Lib.hid (hfin hd); have HI := Lib.hid hIm
        clear hc e1 hcap hd hso hbt hfin hr hl htt ho hcut hIm hv
        cases hsp : (s.stk.getD m {}).space == 0
        · generalize s.stk.getD m {} = o at *
          go_wp2
          go_end0
          exact ⟨rfl, hmut, by rw [HT.out]; exact hR'⟩
        · have hsp' : (s.stk.getD m {}).space = 0 := by simpa using hsp
          rw [hsp'] at d1
          clear hsp'
          generalize s.stk.getD m {} = o at *
          go_wp2_with (go_at_call 159; refine HI.out.mono ?_; rintro e w' ⟨rfl, rfl⟩)
          go_end0
          exact ⟨rfl, hmut, by rw [HT.out]; exact hR'⟩
      · rw [hbt] at hIm
        have HI := Lib.hid hIm
        cases hsp : (s.stk.getD m {}).space == 0
        · rw [hsp, Bool.false_and] at hso
          rw [dropWhile_miss (so := fun k => (s.el k).space == 0 && ((s.el k).name != but && impliedK (s.el k).name)) hso] at hd
          have HT := Lib.hid (hfin hd)
          clear hc e1 hcap hd hso hbt hfin hr hl htt ho hcut hIm hv
          generalize s.stk.getD m {} = o at *
          go_wp2
          go_end0
          exact ⟨rfl, hmut, by rw [HT.out]; exact hR'⟩
        · rw [hbt, hsp, Bool.true_and] at hso
          rw [dropWhile_hit (so := fun k => (s.el k).space == 0 && ((s.el k).name != but && impliedK (s.el k).name)) hso] at hd
          have HD := Lib.hid hd
          have hsp' : (s.stk.getD m {}).space = 0 := by simpa using hsp
          rw [hsp'] at d1
          clear hc e1 hcap hd hso hbt hfin hr hl htt ho hcut hIm hv hsp' hR'
          generalize s.stk.getD m {} = o at *
          go_wp2_with (go_at_call 159; refine HI.out.mono ?_; rintro e w' ⟨rfl, rfl⟩)
          go_roundw
          case rel => exact ⟨m, by omega, rfl, HD.out, hmut.trans HC.out.1, by have := HC.out.2; rw [grow_trans hmut.size HC.out.1.size] at this; exact this⟩
          case measure => simp [intOf]
end Go.Proofs.YtgaebaokcjhcdaaGreatDoor

/- slices.Delete of one element; the stack: Implied, Remove. -/
set_option linter.unusedVariables false
set_option linter.unusedSimpArgs false
namespace Go.Proofs.YtgaebaokcjhcdaaGreatDoor
open Go.RowKit Lz

section
variable {P : Program}
theorem zeroCells_one (z : Array Value) : Builtin.zeroCells z 1 = z := by
  unfold Builtin.zeroCells
  apply Array.ext
  · simp
  · intro i h1 h2
    simp only [Array.getElem_map, Array.getElem_range]
    rw [Nat.mod_eq_of_lt (by simpa using h2)]
    simp [getElem!_pos, h2]
/-- clear of one element of a row. -/
theorem run_clear_r (w : World) (t e ty : TypeId) (z : Value) (zs : List Value) (ht : P.underlying t = some (.slice e)) (hv : ∀ w, (zeroValue e).run P w = .ok z w) (hz : z.cells.toList = zs) (h1 : ∀ u ∈ zs, u.oneCell' = true)
    (g o c : Nat) (cur : Array Value) (t' : TypeId) (hg : w.heap[g]? = some (.cells cur t' (0, 0))) (hfit : o + zs.length ≤ cur.size) :
    (Builtin.clear_ #[t] ty #[.slice (some ⟨g, o, none⟩) 1 c]).run P w = .ok (.tuple #[]) (w.setRow g (cur.toList.take o ++ zs ++ cur.toList.drop (o + zs.length)).toArray) := by
  have hst := run_storeCells_at P g o t' zs 0 cur w hg (by simpa using hfit) h1
  simp only [Nat.add_zero] at hst
  simp [Builtin.clear_, run_underlying ht, hv, zeroCells_one, hz, hst]
theorem wpList_clear_r {ops : Array Oper} {rest : List Oper} {o : Oper} {a : Act} {w : World} {Q : Exit → Act → World → Prop} (hgd : o.guard = none) (s : Operand) (t e : TypeId) (z : Value) (zs : List Value)
    (ho : o.op = .call { callee := .builtin .clear, args := #[s], argTypes := #[t] })
    (ht : P.underlying t = some (.slice e)) (hv : ∀ w, (zeroValue e).run P w = .ok z w) (hz : z.cells.toList = zs) (h1 : ∀ u ∈ zs, u.oneCell' = true)
    (g of c : Nat) (cur : Array Value) (t' : TypeId) (hs : a.eval s = .slice (some ⟨g, of, none⟩) 1 c) (hg : w.heap[g]? = some (.cells cur t' (0, 0))) (hfit : of + zs.length ≤ cur.size) (row : Array Value) (hrow : row = (cur.toList.take of ++ zs ++ cur.toList.drop (of + zs.length)).toArray)
    (h : wpList P ops Q rest (a.put o.dst (.tuple #[])) (w.setRow g row)) : wpList P ops Q (o :: rest) a w := by
  subst hrow
  refine wpList_plain hgd fun K hK => ?_
  have hr := run_clear_r (P := P) w t e o.type z zs ht hv hz h1 g of c cur t' hg hfit
  unfold Oper.wp execOp
  simp only [ho, resolve, invoke, builtin, Sem.run_bind, Sem.run_pure, Result.andThen_ok, List.map_toArray, List.map_cons, List.map_nil, hs, hr]
  exact hK _ _ h
theorem step_append_room_r {ops : Array Oper} {o : Oper} {a : Act} {w : World} {K : Act → World → Prop} {Q : Exit → Act → World → Prop} {E : Prop} (hgd : o.guard = none) (s x : Operand) (t : TypeId)
    (ho : o.op = .call { callee := .builtin .append, args := #[s, x], argTypes := #[t, t] })
    (e : TypeId) (i : TypeInfo) (size : Nat) (ht : P.underlying t = some (.slice e)) (hi : P.info? e = some i) (hsize : i.size = size)
    (g n cap : Nat) (cur : Array Value) (hs : a.eval s = .slice (some ⟨g, 0, none⟩) n cap) (hg : w.heap[g]? = some (.cells cur e (0, 0)))
    (ad : Addr) (m c : Nat) (news : List Value) (hx : a.eval x = .slice (some ad) m c) (hl : news.length = m * size) (hnews : ∀ j u, news[j]? = some u → w.cell? (ad.add j) = some u) (h1 : ∀ u ∈ news, u.oneCell' = true)
    (hroom : n + m ≤ cap) (hfit : n * size + news.length ≤ cur.size) (row : Array Value) (hrow : row = (cur.toList.take (n * size) ++ news ++ cur.toList.drop (n * size + news.length)).toArray)
    (h : K (a.put o.dst (.slice (some ⟨g, 0, none⟩) (n + m) cap)) (w.setRow g row)) :
    if Region.wanted o (yielded ops a.tmps) = true then Oper.wp P o a w K Q else E := by
  have hw : Region.wanted o (yielded ops a.tmps) = true := by simp [Region.wanted, hgd]
  rw [if_pos hw]
  subst hrow
  subst hsize
  have hr := run_append_room (P := P) w t o.type e i ht hi g n cap cur hg ad m c news hl hnews h1 hroom hfit
  unfold Oper.wp execOp
  simp only [ho, resolve, invoke, builtin, Sem.run_bind, Sem.run_pure, Result.andThen_ok, List.map_toArray, List.map_cons, List.map_nil, hs, hx, hr]
  exact h
end

variable {w : World} {F : Nat → Prop} {st a : Nat} {s : St}
theorem sImplied_c (h : StackRep w F st a s.stk) (hg : Glob w) (hF : ∀ k, F k → 6 ≤ k) (hN : ∀ k, (s.el k).name.size < 1000000) (but : Str) :
    Calls Tryz.prog 104 #[.pointer (some ⟨st, 0, none⟩), .string but] w fun e w' => e = .returned (.tuple #[]) ∧ Mut F w w' ∧ StackRep w' (grow F w w') st a (s.implied but).stk := by
  have hb := bel_alloc w (.cells #[.string but] 9 (0, 0))
  have hD := sDropImplied (h.bel hb) (hg.bel hb) hF hN w.heap.size but (heap_alloc_new w _) (fun hf => absurd (h.lt _ hf) (Nat.lt_irrefl _))
  have HD := Lib.hid hD; have HB := Lib.hid hb; have HL := Lib.hid h.lt
  clear hD hb
  go_enter Tryz.func104, Tryz.ntmps104
  go_wp2_with (go_at_call 158; refine HD.out.mono ?_; rintro e w' ⟨rfl, hm, hr⟩)
  go_end0
  have hm' : Mut F w w' := (Mut.of_bel HB.out).trans (hm.mono fun k hk => .inl hk)
  exact ⟨rfl, hm', hr.keep (fun _ _ => rfl) (grow_bel HB.out.size) (grow_lt HL.out hm'.size)⟩

theorem getElem?_splice (cur news : List Value) (a n : Nat) (hn : news.length = n) (ha : a ≤ cur.length) (j : Nat) : (cur.take a ++ news ++ cur.drop (a + n))[j]? = if j < a then cur[j]? else if j < a + n then news[j - a]? else cur[j]? := by
  rw [List.append_assoc]
  by_cases h1 : j < a
  · rw [if_pos h1, List.getElem?_append_left (by simp; omega), List.getElem?_take_of_lt h1]
  · rw [if_neg h1, List.getElem?_append_right (by simp; omega)]
    simp only [List.length_take]
    rw [Nat.min_eq_left ha]
    by_cases h2 : j < a + n
    · rw [if_pos h2, List.getElem?_append_left (by omega)]
    · rw [if_neg h2, List.getElem?_append_right (by omega), List.getElem?_drop]
      congr 1; omega
/-- What Delete leaves of the row. -/
theorem OpRow.deleted {w : World} {F : Nat → Prop} {g cap q i : Nat} {l : List OpEl} {cur : Array Value} (hl : l.length = q + 1) (hi : i ≤ q) (hF : F g) (hb : w.heap[g]? = some (.cells cur 116 (0, 0))) (r1 : q + 1 ≤ cap) (r2 : cap ≤ maxLen) (r3 : cap * 3 ≤ cur.size)
    (r4 : ∀ i, i < q + 1 → cur[i * 3]? = some (.int .i64 (l.getD i {}).node) ∧ cur[i * 3 + 1]? = some (.int .i64 (l.getD i {}).space) ∧ cur[i * 3 + 2]? = some (.string (l.getD i {}).name))
    (cs1 cs2 : List Value) (e1 : cs1 = cur.toList.take (i * 3) ++ (cur.toList.drop ((i + 1) * 3)).take ((q - i) * 3) ++ cur.toList.drop (i * 3 + ((cur.toList.drop ((i + 1) * 3)).take ((q - i) * 3)).length)) (zs : List Value) (hz : zs.length = 3) (e2 : cs2 = cs1.take (q * 3) ++ zs ++ cs1.drop (q * 3 + zs.length)) (w2 : World) (hw2 : w2.heap[g]? = some (.cells cs2.toArray 116 (0, 0))) :
    OpRow w2 F (.slice (some ⟨g, 0, none⟩) q cap) (l.eraseIdx i) := by
  have hcur : cur.toList.length = cur.size := by simp
  have hnl : ((cur.toList.drop ((i + 1) * 3)).take ((q - i) * 3)).length = (q - i) * 3 := by simp; omega
  rw [hnl] at e1
  have l1 : cs1.length = cur.size := by rw [e1]; simp; omega
  have l2 : cs2.length = cur.size := by rw [e2]; simp [hz, l1]; omega
  have hle : (l.eraseIdx i).length = q := by rw [List.length_eraseIdx]; simp [hl]; omega
  have g2 : ∀ j, j < q * 3 → cs2[j]? = if j < i * 3 then cur[j]? else cur[j + 3]? := by
    intro j hj
    rw [e2, getElem?_splice cs1 zs (q * 3) zs.length rfl (by omega) j, if_pos hj, e1, getElem?_splice _ _ (i * 3) _ hnl (by omega) j]
    by_cases h1 : j < i * 3
    · rw [if_pos h1, if_pos h1, Array.getElem?_toList]
    · rw [if_neg h1, if_neg h1, if_pos (by omega), List.getElem?_take_of_lt (by omega), List.getElem?_drop, Array.getElem?_toList]
      congr 1; omega
  refine .inr ⟨g, cap, cs2.toArray, by rw [hle], hF, hw2, by omega, r2, by simp [l2]; exact r3, fun k hk => ?_⟩
  rw [hle] at hk
  simp only [List.getElem?_toArray]
  rw [g2 _ (by omega), g2 _ (by omega), g2 _ (by omega)]
  have hg : (l.eraseIdx i).getD k {} = if k < i then l.getD k {} else l.getD (k + 1) {} := by
    simp only [List.getD_eq_getElem?_getD, List.getElem?_eraseIdx]
    split <;> rfl
  rw [hg]
  by_cases hki : k < i
  · rw [if_pos (show k * 3 < i * 3 by omega), if_pos (show k * 3 + 1 < i * 3 by omega), if_pos (show k * 3 + 2 < i * 3 by omega), if_pos hki]
    exact r4 k (by omega)
  · rw [if_neg (show ¬ k * 3 < i * 3 by omega), if_neg (show ¬ k * 3 + 1 < i * 3 by omega), if_neg (show ¬ k * 3 + 2 < i * 3 by omega), if_neg hki]
    have := r4 (k + 1) (by omega)
    rw [show (k + 1) * 3 = k * 3 + 3 by omega] at this
    exact this

set_option maxRecDepth 100000 in
set_option maxHeartbeats 2000000 in
theorem delOp_c (w : World) (F : Nat → Prop) (g cap q i : Nat) (l : List OpEl) (h : OpRow w F (.slice (some ⟨g, 0, none⟩) (q + 1) cap) l) (hl : l.length = q + 1) (hiq : i ≤ q) (hq : q < 512) :
    Calls Tryz.prog 189 #[.slice (some ⟨g, 0, none⟩) (q + 1) cap, .int .i64 i, .int .i64 ((i : Int) + 1)] w fun e w' => e = .returned (.slice (some ⟨g, 0, none⟩) q cap) ∧ OpRow w' F (.slice (some ⟨g, 0, none⟩) q cap) (l.eraseIdx i) ∧ Mut (fun k => k = g) w w' := by
  obtain ⟨i0, hi, hz0, hz1, hz2⟩ := info_parts Tryz.infoOpen
  rcases h with ⟨e, _⟩ | ⟨g2, c2, cur, e, hF, hgd, r1, r2, r3, r4⟩
  · cases e
  injection e with e1 e2 e3
  clear e2
  injection e1 with e1
  injection e1 with e1
  subst e1; subst e3
  rw [hl] at r1 r4
  have hcur : cur.toList.length = cur.size := by simp
  have hnl : ((cur.toList.drop ((i + 1) * 3)).take ((q - i) * 3)).length = (q - i) * 3 := by simp; omega
  have hn1 : ∀ u ∈ ((cur.toList.drop ((i + 1) * 3)).take ((q - i) * 3)), u.oneCell' = true := by
    intro u hu
    obtain ⟨j, hj, rfl⟩ := List.mem_iff_getElem.1 hu
    rw [hnl] at hj
    have e : ((cur.toList.drop ((i + 1) * 3)).take ((q - i) * 3))[j]? = cur[(i + 1) * 3 + j]? := by rw [List.getElem?_take_of_lt hj, List.getElem?_drop, Array.getElem?_toList]
    have r := r4 (((i + 1) * 3 + j) / 3) (by omega)
    have hm : ((i + 1) * 3 + j) % 3 = 0 ∨ ((i + 1) * 3 + j) % 3 = 1 ∨ ((i + 1) * 3 + j) % 3 = 2 := by omega
    rw [List.getElem?_eq_getElem (by omega)] at e
    rcases hm with hm | hm | hm
    · rw [show (i + 1) * 3 + j = ((i + 1) * 3 + j) / 3 * 3 by omega, r.1] at e; injection e with e; rw [e]; rfl
    · rw [show (i + 1) * 3 + j = ((i + 1) * 3 + j) / 3 * 3 + 1 by omega, r.2.1] at e; injection e with e; rw [e]; rfl
    · rw [show (i + 1) * 3 + j = ((i + 1) * 3 + j) / 3 * 3 + 2 by omega, r.2.2] at e; injection e with e; rw [e]; rfl
  have hnews : ∀ j u, ((cur.toList.drop ((i + 1) * 3)).take ((q - i) * 3))[j]? = some u → w.drew.cell? ((⟨g, (i + 1) * 3, none⟩ : Addr).add j) = some u := by
    intro j u hj
    have e : (⟨g, (i + 1) * 3, none⟩ : Addr).add j = ⟨g, (i + 1) * 3 + j, none⟩ := by unfold Addr.add; split <;> simp_all
    have hjl : j < (q - i) * 3 := by have := (List.getElem?_eq_some_iff.1 hj).1; omega
    rw [e, blk_cell (w := w.drew) hgd]
    rw [List.getElem?_take_of_lt hjl, List.getElem?_drop, Array.getElem?_toList] at hj
    exact hj
  have hroom : i + (q - i) ≤ cap := by omega
  have hfit : i * 3 + ((cur.toList.drop ((i + 1) * 3)).take ((q - i) * 3)).length ≤ cur.size := by rw [hnl]; omega
  have e1 : i + (q - i) = q := by omega
  obtain ⟨cs1, hcs1⟩ : ∃ cs1, cs1 = cur.toList.take (i * 3) ++ (cur.toList.drop ((i + 1) * 3)).take ((q - i) * 3) ++ cur.toList.drop (i * 3 + ((cur.toList.drop ((i + 1) * 3)).take ((q - i) * 3)).length) := ⟨_, rfl⟩
  have hl1 : cs1.length = cur.size := by rw [hcs1, hnl]; simp; omega
  have hdel := fun w2 hw2 => OpRow.deleted (F := F) hl hiq hF hgd r1 r2 r3 r4 cs1 _ hcs1 [.int .i64 0, .int .i64 0, .string ⟨#[]⟩] rfl rfl w2 hw2
  have f1 : (i : Int) ≤ (i : Int) + 1 := by omega
  have f2 : (i : Int) + 1 ≤ (q : Int) + 1 := by omega
  have f3 : ((i : Int) + 1).toNat = i + 1 := by omega
  have f4 : (q : Int) + 1 ≤ (cap : Int) := by omega
  have f5 : (i : Int) ≤ (cap : Int) := by omega
  have f6 : (0 : Int) ≤ (i : Int) + 1 := by omega
  have f7 : ¬ (i : Int) = (i : Int) + 1 := by omega
  have HD := Lib.hid hdel; have HW := Lib.hid hnews; have HU := Lib.hid hn1; have HL := Lib.hid hl1; have HC1 := Lib.hid hcs1; have HNL := Lib.hid hnl; have HR4 := Lib.hid r4; have HHL := Lib.hid hl; have HFT := Lib.hid hfit; have HR := Lib.hid hroom; have HR2 := Lib.hid r2; have HR3 := Lib.hid r3
  clear hdel hnews hn1 hl1 hcs1 hnl r4 hl hfit hroom hcur r2 r3
  obtain ⟨cs2, hcs2⟩ : ∃ cs2, cs2 = cs1.take (q * 3) ++ [.int .i64 0, .int .i64 0, .string ⟨#[]⟩] ++ cs1.drop (q * 3 + ([.int .i64 0, .int .i64 0, .string ⟨#[]⟩] : List Value).length) := ⟨_, rfl⟩
  have HFin := HD.out
  rw [← hcs2] at HFin
  replace HFin := Lib.hid HFin
  have HC1a := Lib.hid (congrArg List.toArray HC1.out)
  have HC2a := Lib.hid (congrArg List.toArray hcs2)
  have HZ := Lib.hid (show ∀ u ∈ ([.int .i64 0, .int .i64 0, .string ⟨#[]⟩] : List Value), u.oneCell' = true by simp [Value.oneCell'])
  have HZC : Hid ((Value.agg #[.int .i64 0, .int .i64 0, .string ⟨#[]⟩]).cells.toList = [.int .i64 0, .int .i64 0, .string ⟨#[]⟩]) := Lib.hid rfl
  have HF2 : Hid (q * 3 + ([.int .i64 0, .int .i64 0, .string ⟨#[]⟩] : List Value).length ≤ cs1.toArray.size) := Lib.hid (by have := HL.out; have := HR3.out; simp; omega)
  have HM : Hid (Mut (fun k => k = g) w ((w.drew.setRow g cs1.toArray).setRow g cs2.toArray)) := Lib.hid ⟨rfl, rfl, rfl, by simp [World.setRow], fun k hk hn => (setRow_other _ _ _ _ hn).trans (setRow_other _ _ _ _ hn)⟩
  have HRun : Hid ((Builtin.clear_ #[80] 0 #[.slice (some ⟨g, q * 3, none⟩) 1 (cap - q)]).run Tryz.prog (w.drew.setRow g cs1.toArray) = .ok (.tuple #[]) ((w.drew.setRow g cs1.toArray).setRow g cs2.toArray)) :=
    Lib.hid (by rw [HC2a.out]; exact run_clear_r (P := Tryz.prog) _ 80 116 0 (.agg #[.int .i64 0, .int .i64 0, .string ⟨#[]⟩]) [.int .i64 0, .int .i64 0, .string ⟨#[]⟩] Tryz.underlying80 Tryz.zeroValue116 HZC.out HZ.out g (q * 3) (cap - q) cs1.toArray 116 (setRow_heap _ _ _ _ _ _ (show w.drew.heap[g]? = _ from hgd)) HF2.out)
  clear HD hcs2
  by_cases hc : cap = i + 1
  · have hqi : i = q := by omega
    subst hqi
    have HC1b : Hid (cs1.toArray = (cur.toList.take (i * 3) ++ [] ++ cur.toList.drop (i * 3 + ([] : List Value).length)).toArray) := Lib.hid (by have := HC1a.out; rw [Nat.sub_self, Nat.zero_mul, List.take_zero] at this; exact this)
    have HW0 : Hid (∀ j u, ([] : List Value)[j]? = some u → w.drew.cell? ((⟨g, 0, none⟩ : Addr).add j) = some u) := Lib.hid (by intro j u hj; simp at hj)
    have HU0 : Hid (∀ u ∈ ([] : List Value), u.oneCell' = true) := Lib.hid (by simp)
    have HR0 : Hid (i + 0 ≤ cap) := Lib.hid (by omega)
    have HFT0 : Hid (i * 3 + ([] : List Value).length ≤ cur.size) := Lib.hid (by have := HR3.out; simp; omega)
    have hc2 : i + 1 - (i + 1) = 0 := by omega
    subst hc
    clear e1
    have HRun1 := HRun.out
    rw [show i + 1 - i = 1 by omega] at HRun1
    have HRun2 := Lib.hid HRun1
    clear HRun1 HRun
    go_enter Tryz.func189, Tryz.ntmps189
    go_wp2
    go_region_law (refine step_append_room_r rfl (.tmp 22) (.tmp 25) 80 rfl 116 i0 3 Tryz.underlying80 hi hz1 g i (i + 1) cur ?hs hgd ⟨g, 0, none⟩ 0 0 [] ?hx rfl HW0.out HU0.out HR0.out HFT0.out cs1.toArray HC1b.out ?_; (case hs => go_simp); (case hx => go_simp))
    all_goals (
      go_wp2
      rw [HRun2.out]
      go_wp2
      go_ret
      exact ⟨rfl, HFin.out _ (setRow_heap _ _ _ _ _ _ (setRow_heap _ _ _ _ _ _ hgd)), HM.out⟩)
  · go_enter Tryz.func189, Tryz.ntmps189
    go_wp2
    go_region_law (refine step_append_room_r rfl (.tmp 22) (.tmp 25) 80 rfl 116 i0 3 Tryz.underlying80 hi hz1 g i cap cur ?hs hgd ⟨g, (i + 1) * 3, none⟩ (q - i) (cap - (i + 1)) ((cur.toList.drop ((i + 1) * 3)).take ((q - i) * 3)) ?hx HNL.out HW.out HU.out HR.out HFT.out cs1.toArray HC1a.out ?_; (case hs => go_simp); (case hx => go_simp))
    all_goals (
      go_wp2
      rw [HRun.out]
      go_wp2
      go_ret
      exact ⟨rfl, HFin.out _ (setRow_heap _ _ _ _ _ _ (setRow_heap _ _ _ _ _ _ hgd)), HM.out⟩)
end Go.Proofs.YtgaebaokcjhcdaaGreatDoor

/- The stack: Remove, Replace. -/
set_option linter.unusedVariables false
set_option linter.unusedSimpArgs false
namespace Go.Proofs.YtgaebaokcjhcdaaGreatDoor
open Go.RowKit Lz
variable {w : World} {F Fa : Nat → Prop} {st a : Nat} {s : St}

theorem lastBelow_lt (p : Nat → Bool) : ∀ n, lastBelow p n < (n : Int)
  | 0 => by simp [lastBelow]
  | n + 1 => by
    unfold lastBelow
    split
    · omega
    · have := lastBelow_lt p n; omega
theorem lastBelow_ge (p : Nat → Bool) : ∀ n, -1 ≤ lastBelow p n
  | 0 => by simp [lastBelow]
  | n + 1 => by
    unfold lastBelow
    split
    · omega
    · exact lastBelow_ge p n

set_option maxHeartbeats 1000000 in
theorem sRemove_c (h : StackRep w F st a s.stk) (i : Int) :
    Calls Tryz.prog 148 #[.pointer (some ⟨st, 0, none⟩), .int .i64 i] w fun e w' => e = .returned (.int .i64 (s.removeE i)) ∧ Mut F w w' ∧ StackRep w' (grow F w w') st a (s.remove i).stk := by
  have hI := sIndex_c h i
  have hlt : s.index i < (s.stk.length : Int) := lastBelow_lt _ _
  have h' := h
  obtain ⟨A, cap, c0, c1, f1, hs, hr⟩ := h.form
  obtain ⟨vv, hv⟩ := h'
  have ev := hv.eqv c1
  subst ev
  by_cases h0 : s.index i < 0
  · have hfin : s.removeE i = 4 ∧ (s.remove i).stk = s.stk := by unfold St.removeE St.remove; simp [h0]
    rw [hfin.1, hfin.2]
    have HI := Lib.hid hI
    clear hI hr hfin hv hlt
    generalize s.index i = k at *
    go_enter Tryz.func148, Tryz.ntmps148
    go_wp2_with (first | (go_at_call 171; refine (sNone_c h).mono ?_; rintro e w' ⟨rfl, rfl⟩) | (go_at_call 115; refine HI.out.mono ?_; rintro e w' ⟨rfl, rfl⟩))
    go_ret
    exact ⟨rfl, Mut.refl _ _, h.refl⟩
  · have hfin : s.removeE i = 0 ∧ (s.remove i).stk = s.stk.eraseIdx (s.index i).toNat := by unfold St.removeE St.remove; simp [h0]
    rw [hfin.1, hfin.2]
    obtain ⟨k, hk⟩ : ∃ k : Nat, s.index i = k := ⟨(s.index i).toNat, by omega⟩
    rw [hk] at hI hlt ⊢
    clear hfin h0 hk
    simp only [Int.toNat_natCast]
    obtain ⟨q, hq⟩ : ∃ q, s.stk.length = q + 1 := ⟨s.stk.length - 1, by omega⟩
    obtain ⟨g, rfl, _⟩ := hr (by omega)
    have hown := hv.row.own g rfl
    have hrow := hv.row
    rw [hq] at hrow
    have hDel := delOp_c w F g cap q k s.stk hrow hq (by omega) (by omega)
    have wk : IntKind.i64.wrap ((k : Int) + 1) = (k : Int) + 1 := IntWalk.i64_in _ (by omega)
    have hgst : st ≠ g := by
      rcases hv.row with ⟨e, _⟩ | ⟨g2, c2, cur, e, _, hbk, _⟩
      · cases e
      · injection e with e1 _ _
        injection e1 with e1
        injection e1 with e1
        subst e1
        exact fun e => blk_ne hbk hv.blk (by decide) e.symm
    have hstl : st < w.heap.size := hv.lt st hv.Fs
    rw [hq] at c1
    have HI := Lib.hid hI; have HD := Lib.hid hDel; have HV := Lib.hid hv; have HQ := Lib.hid hq
    clear hI hDel hv hr hrow hq hlt
    have k0 : (0 : Int) ≤ (k : Int) := by omega
    go_enter Tryz.func148, Tryz.ntmps148
    go_wp2_with (first | (go_at_call 171; refine (sNone_c h).mono ?_; rintro e w' ⟨rfl, rfl⟩) | (go_at_call 115; refine HI.out.mono ?_; rintro e w' ⟨rfl, rfl⟩) | (go_at_call 189; refine HD.out.mono ?_; rintro e w2 ⟨rfl, hr2, hm2⟩; have ht := hm2.block st hstl hgst; have d1 := (World.cell?_of_block (a := ⟨st, 1, none⟩) ht).trans c1; have e1 := (World.frozen?_of_block (a := ⟨st, 1, none⟩) ht).trans f1; clear ht))
    go_ret
    have hput := HV.out.put (Below.refl _ _) (hm2.mono fun k hk => by rw [hk]; rfl) (hr2.keep2 (fun _ _ _ => rfl) (fun k _ hob => .inl hob)) (by rw [List.length_eraseIdx]; split <;> omega)
    exact ⟨rfl, hput.1, hput.2⟩
end Go.Proofs.YtgaebaokcjhcdaaGreatDoor

/- The list of formatting elements: what memory holds for it; the functions that only read. -/
set_option linter.unusedVariables false
set_option linter.unusedSimpArgs false
namespace Go.Proofs.YtgaebaokcjhcdaaGreatDoor
open Go.RowKit Lz

structure ListV (w : World) (F : Nat → Prop) (st a : Nat) (v : Value) (l : List Int) : Prop where
  blk : w.heap[st]? = some (.cells #[.pointer (some ⟨a, 0, none⟩), v] 118 (0, 0))
  Fs : F st
  row : IntRow w F v l
  lt : ∀ k, F k → k < w.heap.size
  small : l.length ≤ 64
def ListRep (w : World) (F : Nat → Prop) (st a : Nat) (l : List Int) : Prop := ∃ v, ListV w F st a v l
theorem ListRep.keep {w w' : World} {F G : Nat → Prop} {st a : Nat} {l : List Int} (h : ListRep w F st a l) (hk : ∀ k, F k → w'.heap[k]? = w.heap[k]?) (hG : ∀ k, F k → G k) (hlt : ∀ k, G k → k < w'.heap.size) : ListRep w' G st a l := by
  obtain ⟨v, h⟩ := h
  exact ⟨v, (hk st h.Fs).trans h.blk, hG _ h.Fs, h.row.keep (fun k hF _ => hk k hF) hG, hlt, h.small⟩
theorem ListRep.lt {w : World} {F : Nat → Prop} {st a : Nat} {l : List Int} (h : ListRep w F st a l) : ∀ k, F k → k < w.heap.size := by
  obtain ⟨v, h⟩ := h
  exact h.lt
theorem ListRep.bel {w w' : World} {F : Nat → Prop} {st a : Nat} {l : List Int} (h : ListRep w F st a l) (hb : Bel w w') : ListRep w' F st a l :=
  h.keep (fun k hF => hb.block k (h.lt k hF)) (fun _ h => h) (fun k hF => Nat.lt_of_lt_of_le (h.lt k hF) hb.size)
theorem ListRep.refl {w : World} {F : Nat → Prop} {st a : Nat} {l : List Int} (h : ListRep w F st a l) : ListRep w (grow F w w) st a l := h.keep (fun _ _ => rfl) (fun _ h => .inl h) (fun k hk => h.lt k (grow_self hk))
theorem ListRep.small {w : World} {F : Nat → Prop} {st a : Nat} {l : List Int} (h : ListRep w F st a l) : l.length ≤ 64 := by
  obtain ⟨v, h⟩ := h
  exact h.small
/-- What a walk wants. -/
theorem ListRep.form {w : World} {F : Nat → Prop} {st a : Nat} {l : List Int} (h : ListRep w F st a l) :
    ∃ A cap, w.cell? ⟨st, 0, none⟩ = some (.pointer (some ⟨a, 0, none⟩)) ∧ w.cell? ⟨st, 1, none⟩ = some (.slice A l.length cap) ∧ w.frozen? ⟨st, 1, none⟩ = false ∧ l.length ≤ 64 ∧
      (0 < l.length → ∃ b, A = some ⟨b, 0, none⟩ ∧ ∀ i, i < l.length → w.cell? ⟨b, i, none⟩ = some (.int .i64 (l.getD i 0))) := by
  obtain ⟨v, h⟩ := h
  obtain ⟨A, cap, rfl, hr⟩ := h.row.form
  exact ⟨A, cap, by rw [blk_cell h.blk]; rfl, by rw [blk_cell h.blk]; rfl, blk_frozen h.blk 1, h.small, hr⟩

variable {w : World} {F Fa : Nat → Prop} {st a : Nat} {s : St}
theorem fLen_c (h : ListRep w F st a s.fmts) :
    Calls Tryz.prog 51 #[.pointer (some ⟨st, 0, none⟩)] w fun e w' => e = .returned (.int .i64 s.fmts.length) ∧ w = w' := by
  obtain ⟨A, cap, c0, c1, _, hs, _⟩ := h.form
  go_enter Tryz.func51, Tryz.ntmps51
  go_wp2
  go_ret
  exact ⟨rfl, rfl⟩
theorem fNone_c (h : ListRep w F st a s.fmts) :
    Calls Tryz.prog 168 #[.pointer (some ⟨st, 0, none⟩)] w fun e w' => e = .returned (.bool false) ∧ w = w' := by
  obtain ⟨A, cap, c0, c1, _, hs, _⟩ := h.form
  go_enter Tryz.func168, Tryz.ntmps168
  go_wp2
  go_ret
  exact ⟨rfl, rfl⟩
theorem lastBelow_none {p : Nat → Bool} : ∀ n, (∀ k, k < n → p k = false) → lastBelow p n = -1
  | 0, _ => rfl
  | n + 1, h => by
    unfold lastBelow
    rw [h n (by omega)]
    exact lastBelow_none n (fun k hk => h k (by omega))
theorem open1_c (w : World) (x : Int) :
    Calls Tryz.prog 201 #[.int .i64 x] w fun e w' => e = .returned (.bool (x == -1)) ∧ Bel w w' := by
  cases hb : x == -1 <;> (
    go_enter Tryz.func201, Tryz.ntmps201
    go_wp2
    go_ret
    exact ⟨rfl, Below.refl _ _⟩)
theorem index1_c (w : World) (x i : Int) (B : Nat) (hB : w.cell? ⟨B, 0, none⟩ = some (.int .i64 i)) :
    Calls Tryz.prog 207 #[.int .i64 x, .pointer (some ⟨B, 0, none⟩)] w fun e w' => e = .returned (.bool (x == i)) ∧ Bel w w' := by
  cases hb : x == i <;> (
    go_enter Tryz.func207, Tryz.ntmps207
    go_wp2
    go_ret
    exact ⟨rfl, Below.refl _ _⟩)

set_option maxHeartbeats 1000000 in
theorem fLast_open (h : ListRep w F st a s.fmts) (from_ : Int) (f0 : 0 ≤ from_) :
    Calls Tryz.prog 185 #[.pointer (some ⟨st, 0, none⟩), .int .i64 from_, .func (.func 201) #[] #[]] w fun e w' => e = .returned (.int .i64 (s.flast from_ (fun x => x == -1))) ∧ Bel w w' := by
  obtain ⟨A, cap, c0, c1, _, hs, hr⟩ := h.form
  have wk : IntKind.i64.wrap ((s.fmts.length : Int) - 1) = (s.fmts.length : Int) - 1 := IntWalk.i64_in _ (by omega)
  have hstl : st < w.heap.size := by obtain ⟨v, h⟩ := h; exact h.lt st h.Fs
  have HR := Lib.hid hr; clear hr
  go_enter Tryz.func185, Tryz.ntmps185
  go_wp2_with (go_at_call 51; refine (fLen_c h).mono ?_; rintro e w' ⟨rfl, rfl⟩)
  go_loopw [7] (fun x wr => ∃ n : Nat, n ≤ s.fmts.length ∧ x = .int .i64 ((n : Int) - 1) ∧ lastBelow (fun k => decide (from_ ≤ (k : Int)) && (fun x => x == -1) (s.fmts.getD k 0)) n = s.flast from_ (fun x => x == -1) ∧ Bel w wr) (fun x wr => (intOf x + 1).toNat)
  case atStart => exact ⟨s.fmts.length, Nat.le_refl _, rfl, rfl, Below.refl _ _⟩
  case round =>
    obtain ⟨n, hn1, rfl, heq, hb⟩ := hrel
    have c1' := (hb.cell (p := ⟨st, 1, none⟩) hstl).trans c1
    by_cases hlt : (n : Int) - 1 < from_
    · have hno := lastBelow_none (p := fun k => decide (from_ ≤ (k : Int)) && (fun x => x == -1) (s.fmts.getD k 0)) n (fun k hk => by rw [show decide (from_ ≤ (k : Int)) = false from decide_eq_false (by omega)]; rfl)
      rw [hno] at heq
      have HE := Lib.hid heq
      clear heq hno
      have hd : decide (from_ ≤ (n : Int) - 1) = false := by simpa using hlt
      go_wp2
      go_ret
      exact ⟨ret_int HE.out, hb⟩
    · cases n with
      | zero => omega
      | succ n =>
        obtain ⟨b, rfl, hc⟩ := HR.out (by omega)
        have hbl : b < w.heap.size := by
          have := hc n (by omega)
          refine Nat.lt_of_not_le fun hge => ?_
          simp [World.cell?, Array.getElem?_eq_none hge] at this
        have d0 := (hb.cell (p := ⟨b, n, none⟩) hbl).trans (hc n (by omega))
        have e1 : ((n + 1 : Nat) : Int) - 1 = (n : Int) := by omega
        have wn : IntKind.i64.wrap ((n : Int) - 1) = (n : Int) - 1 := IntWalk.i64_in _ (by omega)
        have hge : from_ ≤ (n : Int) := by omega
        have hge2 : (from_ ≤ (n : Int)) = True := by simp [hge]
        rw [e1]
        have hC := open1_c wr (s.fmts.getD n 0)
        have hp : (fun k : Nat => decide (from_ ≤ (k : Int)) && (fun x => x == -1) (s.fmts.getD k 0)) n = (fun x => x == -1) (s.fmts.getD n 0) := by simp [hge]
        have hni : (n : Int) < (s.fmts.length : Int) := by omega
        clear hc e1 hlt hge2
        cases hbt : (fun x => x == -1) (s.fmts.getD n 0)
        · rw [lastBelow_miss (hp.trans hbt)] at heq
          have hbt' := hbt
          dsimp only at hbt'
          rw [hbt'] at hC
          have HE := Lib.hid heq; have HH := Lib.hid hC; clear heq hC hbt hbt' hp
          generalize s.fmts.getD n 0 = z at *
          go_wp2_with (go_at_call 201; refine HH.out.mono ?_; rintro e w1 ⟨rfl, hb1⟩)
          go_roundw
          case rel => exact ⟨n, by omega, rfl, HE.out, bel_tr hb hb1⟩
          case measure => simp [intOf]
        · rw [lastBelow_hit (hp.trans hbt)] at heq
          have hbt' := hbt
          dsimp only at hbt'
          rw [hbt'] at hC
          have HE := Lib.hid heq; have HH := Lib.hid hC; clear heq hC hbt hbt' hp
          generalize s.fmts.getD n 0 = z at *
          go_wp2_with (go_at_call 201; refine HH.out.mono ?_; rintro e w1 ⟨rfl, hb1⟩)
          go_ret
          exact ⟨ret_int HE.out, bel_tr hb hb1⟩

set_option maxHeartbeats 1000000 in
theorem fLast_index (h : ListRep w F st a s.fmts) (from_ : Int) (f0 : 0 ≤ from_) (B : Nat) (i : Int) (hB : w.cell? ⟨B, 0, none⟩ = some (.int .i64 i)) (hBl : B < w.heap.size) :
    Calls Tryz.prog 185 #[.pointer (some ⟨st, 0, none⟩), .int .i64 from_, .func (.func 207) #[] #[.pointer (some ⟨B, 0, none⟩)]] w fun e w' => e = .returned (.int .i64 (s.flast from_ (fun x => x == i))) ∧ Bel w w' := by
  obtain ⟨A, cap, c0, c1, _, hs, hr⟩ := h.form
  have wk : IntKind.i64.wrap ((s.fmts.length : Int) - 1) = (s.fmts.length : Int) - 1 := IntWalk.i64_in _ (by omega)
  have hstl : st < w.heap.size := by obtain ⟨v, h⟩ := h; exact h.lt st h.Fs
  have HR := Lib.hid hr; clear hr
  go_enter Tryz.func185, Tryz.ntmps185
  go_wp2_with (go_at_call 51; refine (fLen_c h).mono ?_; rintro e w' ⟨rfl, rfl⟩)
  go_loopw [7] (fun x wr => ∃ n : Nat, n ≤ s.fmts.length ∧ x = .int .i64 ((n : Int) - 1) ∧ lastBelow (fun k => decide (from_ ≤ (k : Int)) && (fun x => x == i) (s.fmts.getD k 0)) n = s.flast from_ (fun x => x == i) ∧ Bel w wr) (fun x wr => (intOf x + 1).toNat)
  case atStart => exact ⟨s.fmts.length, Nat.le_refl _, rfl, rfl, Below.refl _ _⟩
  case round =>
    obtain ⟨n, hn1, rfl, heq, hb⟩ := hrel
    have c1' := (hb.cell (p := ⟨st, 1, none⟩) hstl).trans c1
    by_cases hlt : (n : Int) - 1 < from_
    · have hno := lastBelow_none (p := fun k => decide (from_ ≤ (k : Int)) && (fun x => x == i) (s.fmts.getD k 0)) n (fun k hk => by rw [show decide (from_ ≤ (k : Int)) = false from decide_eq_false (by omega)]; rfl)
      rw [hno] at heq
      have HE := Lib.hid heq
      clear heq hno
      have hd : decide (from_ ≤ (n : Int) - 1) = false := by simpa using hlt
      go_wp2
      go_ret
      exact ⟨ret_int HE.out, hb⟩
    · cases n with
      | zero => omega
      | succ n =>
        obtain ⟨b, rfl, hc⟩ := HR.out (by omega)
        have hbl : b < w.heap.size := by
          have := hc n (by omega)
          refine Nat.lt_of_not_le fun hge => ?_
          simp [World.cell?, Array.getElem?_eq_none hge] at this
        have d0 := (hb.cell (p := ⟨b, n, none⟩) hbl).trans (hc n (by omega))
        have e1 : ((n + 1 : Nat) : Int) - 1 = (n : Int) := by omega
        have wn : IntKind.i64.wrap ((n : Int) - 1) = (n : Int) - 1 := IntWalk.i64_in _ (by omega)
        have hge : from_ ≤ (n : Int) := by omega
        have hge2 : (from_ ≤ (n : Int)) = True := by simp [hge]
        rw [e1]
        have hC := index1_c wr (s.fmts.getD n 0) i B ((hb.cell (p := ⟨B, 0, none⟩) hBl).trans hB)
        have hp : (fun k : Nat => decide (from_ ≤ (k : Int)) && (fun x => x == i) (s.fmts.getD k 0)) n = (fun x => x == i) (s.fmts.getD n 0) := by simp [hge]
        have hni : (n : Int) < (s.fmts.length : Int) := by omega
        clear hc e1 hlt hge2
        cases hbt : (fun x => x == i) (s.fmts.getD n 0)
        · rw [lastBelow_miss (hp.trans hbt)] at heq
          have hbt' := hbt
          dsimp only at hbt'
          rw [hbt'] at hC
          have HE := Lib.hid heq; have HH := Lib.hid hC; clear heq hC hbt hbt' hp
          generalize s.fmts.getD n 0 = z at *
          go_wp2_with (go_at_call 207; refine HH.out.mono ?_; rintro e w1 ⟨rfl, hb1⟩)
          go_roundw
          case rel => exact ⟨n, by omega, rfl, HE.out, bel_tr hb hb1⟩
          case measure => simp [intOf]
        · rw [lastBelow_hit (hp.trans hbt)] at heq
          have hbt' := hbt
          dsimp only at hbt'
          rw [hbt'] at hC
          have HE := Lib.hid heq; have HH := Lib.hid hC; clear heq hC hbt hbt' hp
          generalize s.fmts.getD n 0 = z at *
          go_wp2_with (go_at_call 207; refine HH.out.mono ?_; rintro e w1 ⟨rfl, hb1⟩)
          go_ret
          exact ⟨ret_int HE.out, bel_tr hb hb1⟩
end Go.Proofs.YtgaebaokcjhcdaaGreatDoor
