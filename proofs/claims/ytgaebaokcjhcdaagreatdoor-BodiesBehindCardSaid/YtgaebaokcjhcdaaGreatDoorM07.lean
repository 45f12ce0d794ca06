/- The list of formatting elements: slices.Insert at the end, slices.Delete, at whole numbers. -/
import Derived.Test.YtgaebaokcjhcdaaGreatDoorM06

set_option linter.unusedVariables false
set_option linter.unusedSimpArgs false
namespace Go.Proofs.YtgaebaokcjhcdaaGreatDoor
open Go.RowKit Lz

theorem IntRow.own {w : World} {F : Nat → Prop} {v : Value} {xs : List Int} (h : IntRow w F v xs) : ∀ k, v.ownBlock = some k → F k := by
  intro k hk
  rcases h with ⟨rfl, _⟩ | ⟨g, c, cur, rfl, hF, hb, _⟩
  · simp [Value.ownBlock] at hk
  · have : g = k := by simpa [Value.ownBlock] using hk
    subst this; exact hF
theorem IntRow.app {w w' : World} {F : Nat → Prop} {v : Value} {l : List Int} {o : Int} {pre : Nat → Option Value} {g' cap' : Nat} {cur' : Array Value} (h : IntRow w F v l)
    (hA : AppR w w' v.ownBlock 3 1 l.length 1 pre [.int .i64 o] g' cap' cur') (hpre : ∀ i, i < l.length → pre i = some (.int .i64 (l.getD i 0))) :
    IntRow w' (ownOr v w) (.slice (some ⟨g', 0, none⟩) (l.length + 1) cap') (l ++ [o]) := by
  have hl : (l ++ [o]).length = l.length + 1 := by simp
  refine .inr ⟨g', cap', cur', by rw [hl], hA.where_, hA.row, by rw [hl]; exact hA.le, hA.capm, by have := hA.fit; omega, fun i hi => ?_⟩
  rw [hl] at hi
  by_cases hi' : i < l.length
  · have hg : (l ++ [o]).getD i 0 = l.getD i 0 := by simp only [List.getD_eq_getElem?_getD]; rw [List.getElem?_append_left hi']
    rw [hg, hA.pre _ (by omega)]
    exact hpre i hi'
  · have : i = l.length := by omega
    subst this
    have hg : (l ++ [o]).getD l.length 0 = o := by simp [List.getD_eq_getElem?_getD]
    have n0 := hA.new 0 (by simp)
    rw [hg]
    rw [Nat.mul_one, Nat.add_zero] at n0
    exact n0

set_option maxRecDepth 100000 in
theorem insInt_end (w : World) (F : Nat → Prop) (v : Value) (l : List Int) (o : Int) (h : IntRow w F v l) (hl : l.length ≤ 64) (vb c : Nat) (hv0 : w.cell? ⟨vb, 0, none⟩ = some (.int .i64 o)) :
    Calls Tryz.prog 209 #[v, .int .i64 l.length, .slice (some ⟨vb, 0, none⟩) 1 c] w fun e w' => ∃ g' cap', e = .returned (.slice (some ⟨g', 0, none⟩) (l.length + 1) cap') ∧ IntRow w' (ownOr v w) (.slice (some ⟨g', 0, none⟩) (l.length + 1) cap') (l ++ [o]) ∧ Mut (fun k => v.ownBlock = some k) w w' := by
  obtain ⟨i0, hi, hz0, hz1, hz2⟩ := info_parts Tryz.infoInt
  have h' := h
  have rn1 : ([.int .i64 o] : List Value).length = 1 * 1 := rfl
  have rn2 : ∀ j u, ([.int .i64 o] : List Value)[j]? = some u → w.cell? ((⟨vb, 0, none⟩ : Addr).add j) = some u := by
    intro j u hj
    have hjl : j < 1 := (List.getElem?_eq_some_iff.1 hj).1
    have : j = 0 := by omega
    subst this
    have e : (⟨vb, 0, none⟩ : Addr).add 0 = ⟨vb, 0, none⟩ := by unfold Addr.add; split <;> simp_all
    rw [e, hv0]; exact hj
  have rn3 : ∀ u ∈ ([.int .i64 o] : List Value), u.oneCell' = true := by simp [Value.oneCell']
  rcases h with ⟨rfl, rfl⟩ | ⟨g, cap, cur, rfl, hF, hb, r1, r2, r3, r4⟩
  · have rm : 1 ≤ maxLen := by decide
    go_enter Tryz.func209, Tryz.ntmps209
    go_wp2_with (at_builtin; refine wpList_append_rnil rfl _ _ 29 rfl 3 i0 (.int .i64 0) 1 8 Tryz.underlying29 hi hz0 hz1 hz2 rfl (by decide) rfl ⟨vb, 0, none⟩ 1 c [.int .i64 o] rfl rn1 rn2 rn3 (by decide) rm (by decide) ?_; intro g' cap' cur' w2 hApp)
    go_wp2
    go_ret
    exact ⟨g', cap', rfl, h'.app hApp (fun i hi => by simp at hi), hApp.mut2 (Below.refl _ _) (fun k e => e)⟩
  · have R4 := Lib.hid r4
    have le : (l.length : Int) ≤ (cap : Int) := by omega
    have HN4 := Lib.hid (show l.length + 1 ≤ maxLen by unfold maxLen; omega)
    have HN5 := Lib.hid (show (l.length + 1) * 8 ≤ 140737488355328 by omega)
    have HR2 := Lib.hid r2
    have HR3 := Lib.hid (show cap * 1 ≤ cur.size by omega)
    clear r4 r2 r3
    go_enter Tryz.func209, Tryz.ntmps209
    go_wp2_with (at_builtin; refine wpList_append_r rfl _ _ 29 rfl 3 i0 (.int .i64 0) 1 8 Tryz.underlying29 hi hz0 hz1 hz2 rfl (by decide) g l.length cap cur rfl hb HR2.out HR3.out r1 ⟨vb, 0, none⟩ 1 c [.int .i64 o] rfl rn1 rn2 rn3 HN4.out HN5.out ?_; intro g' cap' cur' w2 hApp)
    all_goals (
     try go_wp2
     go_ret
     exact ⟨g', cap', rfl, h'.app hApp R4.out, hApp.mut2 (Below.refl _ _) (fun k e => e)⟩)

/-- What Delete leaves of the row. -/
theorem IntRow.deleted {w : World} {F : Nat → Prop} {g cap q i : Nat} {l : List Int} {cur : Array Value} (hl : l.length = q + 1) (hi : i ≤ q) (hF : F g) (hb : w.heap[g]? = some (.cells cur 3 (0, 0))) (r1 : q + 1 ≤ cap) (r2 : cap ≤ maxLen) (r3 : cap ≤ cur.size)
    (r4 : ∀ i, i < q + 1 → cur[i]? = some (.int .i64 (l.getD i 0)))
    (cs1 cs2 : List Value) (e1 : cs1 = cur.toList.take i ++ (cur.toList.drop (i + 1)).take (q - i) ++ cur.toList.drop (i + ((cur.toList.drop (i + 1)).take (q - i)).length)) (zs : List Value) (hz : zs.length = 1) (e2 : cs2 = cs1.take q ++ zs ++ cs1.drop (q + zs.length)) (w2 : World) (hw2 : w2.heap[g]? = some (.cells cs2.toArray 3 (0, 0))) :
    IntRow w2 F (.slice (some ⟨g, 0, none⟩) q cap) (l.eraseIdx i) := by
  have hcur : cur.toList.length = cur.size := by simp
  have hnl : ((cur.toList.drop (i + 1)).take (q - i)).length = (q - i) := by simp; omega
  rw [hnl] at e1
  have l1 : cs1.length = cur.size := by rw [e1]; simp; omega
  have l2 : cs2.length = cur.size := by rw [e2]; simp [hz, l1]; omega
  have hle : (l.eraseIdx i).length = q := by rw [List.length_eraseIdx]; simp [hl]; omega
  have g2 : ∀ j, j < q → cs2[j]? = if j < i then cur[j]? else cur[j + 1]? := by
    intro j hj
    rw [e2, getElem?_splice cs1 zs q zs.length rfl (by omega) j, if_pos hj, e1, getElem?_splice _ _ i _ hnl (by omega) j]
    by_cases h1 : j < i
    · rw [if_pos h1, if_pos h1, Array.getElem?_toList]
    · rw [if_neg h1, if_neg h1, if_pos (by omega), List.getElem?_take_of_lt (by omega), List.getElem?_drop, Array.getElem?_toList]
      congr 1; omega
  refine .inr ⟨g, cap, cs2.toArray, by rw [hle], hF, hw2, by omega, r2, by simp [l2]; exact r3, fun k hk => ?_⟩
  rw [hle] at hk
  simp only [List.getElem?_toArray]
  rw [g2 _ hk]
  have hg : (l.eraseIdx i).getD k 0 = if k < i then l.getD k 0 else l.getD (k + 1) 0 := by
    simp only [List.getD_eq_getElem?_getD, List.getElem?_eraseIdx]
    split <;> rfl
  rw [hg]
  by_cases hki : k < i
  · rw [if_pos hki, if_pos hki]
    exact r4 k (by omega)
  · rw [if_neg hki, if_neg hki]
    exact r4 (k + 1) (by omega)

set_option maxRecDepth 100000 in
set_option maxHeartbeats 2000000 in
theorem delInt_c (w : World) (F : Nat → Prop) (g cap q i : Nat) (l : List Int) (h : IntRow w F (.slice (some ⟨g, 0, none⟩) (q + 1) cap) l) (hl : l.length = q + 1) (hiq : i ≤ q) (hq : q < 512) :
    Calls Tryz.prog 188 #[.slice (some ⟨g, 0, none⟩) (q + 1) cap, .int .i64 i, .int .i64 ((i : Int) + 1)] w fun e w' => e = .returned (.slice (some ⟨g, 0, none⟩) q cap) ∧ IntRow w' F (.slice (some ⟨g, 0, none⟩) q cap) (l.eraseIdx i) ∧ Mut (fun k => k = g) w w' := by
  obtain ⟨i0, hi, hz0, hz1, hz2⟩ := info_parts Tryz.infoInt
  rcases h with ⟨e, _⟩ | ⟨g2, c2, cur, e, hF, hgd, r1, r2, r3, r4⟩
  · cases e
  injection e with e1 e2 e3
  clear e2
  injection e1 with e1
  injection e1 with e1
  subst e1; subst e3
  rw [hl] at r1 r4
  have hcur : cur.toList.length = cur.size := by simp
  have hnl : ((cur.toList.drop (i + 1)).take (q - i)).length = (q - i) := by simp; omega
  have hn1 : ∀ u ∈ ((cur.toList.drop (i + 1)).take (q - i)), u.oneCell' = true := by
    intro u hu
    obtain ⟨j, hj, rfl⟩ := List.mem_iff_getElem.1 hu
    rw [hnl] at hj
    have e : ((cur.toList.drop (i + 1)).take (q - i))[j]? = cur[(i + 1) + j]? := by rw [List.getElem?_take_of_lt hj, List.getElem?_drop, Array.getElem?_toList]
    have r := r4 ((i + 1) + j) (by omega)
    rw [List.getElem?_eq_getElem (by omega), r] at e
    injection e with e; rw [e]; rfl
  have hnews : ∀ j u, ((cur.toList.drop (i + 1)).take (q - i))[j]? = some u → w.drew.cell? ((⟨g, i + 1, none⟩ : Addr).add j) = some u := by
    intro j u hj
    have e : (⟨g, i + 1, none⟩ : Addr).add j = ⟨g, i + 1 + j, none⟩ := by unfold Addr.add; split <;> simp_all
    have hjl : j < (q - i) := by have := (List.getElem?_eq_some_iff.1 hj).1; omega
    rw [e, blk_cell (w := w.drew) hgd]
    rw [List.getElem?_take_of_lt hjl, List.getElem?_drop, Array.getElem?_toList] at hj
    exact hj
  obtain ⟨cs1, hcs1⟩ : ∃ cs1, cs1 = cur.toList.take i ++ (cur.toList.drop (i + 1)).take (q - i) ++ cur.toList.drop (i + ((cur.toList.drop (i + 1)).take (q - i)).length) := ⟨_, rfl⟩
  have hl1 : cs1.length = cur.size := by rw [hcs1, hnl]; simp; omega
  obtain ⟨cs2, hcs2⟩ : ∃ cs2, cs2 = cs1.take q ++ [.int .i64 0] ++ cs1.drop (q + ([.int .i64 0] : List Value).length) := ⟨_, rfl⟩
  have HFin := Lib.hid (fun w2 hw2 => IntRow.deleted (F := F) hl hiq hF hgd r1 r2 r3 r4 cs1 cs2 hcs1 [.int .i64 0] rfl hcs2 w2 hw2)
  have HR : Hid (i + (q - i) ≤ cap) := Lib.hid (by omega)
  have HFT : Hid (i * 1 + ((cur.toList.drop (i + 1)).take (q - i)).length ≤ cur.size) := Lib.hid (by rw [hnl]; omega)
  have HNL : Hid (((cur.toList.drop (i + 1)).take (q - i)).length = (q - i) * 1) := Lib.hid (by rw [hnl]; omega)
  have HC1a : Hid (cs1.toArray = (cur.toList.take (i * 1) ++ ((cur.toList.drop (i + 1)).take (q - i)) ++ cur.toList.drop (i * 1 + ((cur.toList.drop (i + 1)).take (q - i)).length)).toArray) := Lib.hid (by rw [Nat.mul_one]; exact congrArg List.toArray hcs1)
  have HF2 : Hid (q + ([.int .i64 0] : List Value).length ≤ cs1.toArray.size) := Lib.hid (by simp; omega)
  have HM : Hid (Mut (fun k => k = g) w ((w.drew.setRow g cs1.toArray).setRow g cs2.toArray)) := Lib.hid ⟨rfl, rfl, rfl, by simp [World.setRow], fun k hk hn => (setRow_other _ _ _ _ hn).trans (setRow_other _ _ _ _ hn)⟩
  have HRun : Hid ((Builtin.clear_ #[29] 0 #[.slice (some ⟨g, q, none⟩) 1 (cap - q)]).run Tryz.prog (w.drew.setRow g cs1.toArray) = .ok (.tuple #[]) ((w.drew.setRow g cs1.toArray).setRow g cs2.toArray)) :=
    Lib.hid (by rw [congrArg List.toArray hcs2]; exact run_clear_r (P := Tryz.prog) _ 29 3 0 (.int .i64 0) [.int .i64 0] Tryz.underlying29 Tryz.zeroValue3 rfl (by simp [Value.oneCell']) g q (cap - q) cs1.toArray 3 (setRow_heap _ _ _ _ _ _ (show w.drew.heap[g]? = _ from hgd)) HF2.out)
  have HW := Lib.hid hnews; have HU := Lib.hid hn1; have HR3 := Lib.hid r3; have HC1 := Lib.hid hcs1
  clear hnews hn1 r4 r2 r3 hcur hnl hl hcs1 hcs2 hl1
  have e1 : i + (q - i) = q := by omega
  have f1 : (i : Int) ≤ (i : Int) + 1 := by omega
  have f2 : (i : Int) + 1 ≤ (q : Int) + 1 := by omega
  have f3 : ((i : Int) + 1).toNat = i + 1 := by omega
  have f4 : (q : Int) + 1 ≤ (cap : Int) := by omega
  have f5 : (i : Int) ≤ (cap : Int) := by omega
  have f6 : (0 : Int) ≤ (i : Int) + 1 := by omega
  have f7 : ¬ (i : Int) = (i : Int) + 1 := by omega
  by_cases hc : cap = i + 1
  · have hqi : i = q := by omega
    subst hqi
    have HC1b : Hid (cs1.toArray = (cur.toList.take (i * 1) ++ [] ++ cur.toList.drop (i * 1 + ([] : List Value).length)).toArray) := Lib.hid (by have := HC1a.out; rw [Nat.sub_self, List.take_zero] at this; exact this)
    have HW0 : Hid (∀ j u, ([] : List Value)[j]? = some u → w.drew.cell? ((⟨g, 0, none⟩ : Addr).add j) = some u) := Lib.hid (by intro j u hj; simp at hj)
    have HU0 : Hid (∀ u ∈ ([] : List Value), u.oneCell' = true) := Lib.hid (by simp)
    have HR0 : Hid (i + 0 ≤ cap) := Lib.hid (by omega)
    have HFT0 : Hid (i * 1 + ([] : List Value).length ≤ cur.size) := Lib.hid (by have := HR3.out; simp; omega)
    have hc2 : i + 1 - (i + 1) = 0 := by omega
    subst hc
    clear e1
    have HRun1 := HRun.out
    rw [show i + 1 - i = 1 by omega] at HRun1
    have HRun2 := Lib.hid HRun1
    clear HRun1 HRun
    go_enter Tryz.func188, Tryz.ntmps188
    go_wp2
    go_region_law (refine step_append_room_r rfl (.tmp 22) (.tmp 25) 29 rfl 3 i0 1 Tryz.underlying29 hi hz1 g i (i + 1) cur ?hs hgd ⟨g, 0, none⟩ 0 0 [] ?hx rfl HW0.out HU0.out HR0.out HFT0.out cs1.toArray HC1b.out ?_; (case hs => go_simp); (case hx => go_simp))
    all_goals (
      go_wp2
      rw [HRun2.out]
      go_wp2
      go_ret
      exact ⟨rfl, HFin.out _ (setRow_heap _ _ _ _ _ _ (setRow_heap _ _ _ _ _ _ hgd)), HM.out⟩)
  · go_enter Tryz.func188, Tryz.ntmps188
    go_wp2
    go_region_law (refine step_append_room_r rfl (.tmp 22) (.tmp 25) 29 rfl 3 i0 1 Tryz.underlying29 hi hz1 g i cap cur ?hs hgd ⟨g, i + 1, none⟩ (q - i) (cap - (i + 1)) ((cur.toList.drop (i + 1)).take (q - i)) ?hx HNL.out HW.out HU.out HR.out HFT.out cs1.toArray HC1a.out ?_; (case hs => go_simp); (case hx => go_simp))
    all_goals (
      go_wp2
      rw [HRun.out]
      go_wp2
      go_ret
      exact ⟨rfl, HFin.out _ (setRow_heap _ _ _ _ _ _ (setRow_heap _ _ _ _ _ _ hgd)), HM.out⟩)
end Go.Proofs.YtgaebaokcjhcdaaGreatDoor

/- The list of formatting elements: open, Index, Last, may, At, lay, Remove, Insert and Push where nothing is alike. -/
set_option linter.unusedVariables false
set_option linter.unusedSimpArgs false
namespace Go.Proofs.YtgaebaokcjhcdaaGreatDoor
open Go.RowKit Lz
variable {w : World} {F Fa : Nat → Prop} {st a : Nat} {s : St}

theorem fOpen_c (h : ListRep w F st a s.fmts) :
    Calls Tryz.prog 173 #[.pointer (some ⟨st, 0, none⟩)] w fun e w' => e = .returned (.int .i64 s.fopen) ∧ Bel w w' := by
  have hs := h.small
  have hL := fLast_open h 0 (Int.le_refl 0)
  have h1 : s.flast 0 (fun x => x == -1) < (s.fmts.length : Int) := lastBelow_lt _ _
  have h2 : -1 ≤ s.flast 0 (fun x => x == -1) := lastBelow_ge _ _
  have e : s.fopen = s.flast 0 (fun x => x == -1) + 1 := rfl
  rw [e]
  have HL := Lib.hid hL
  clear hL e
  generalize s.flast 0 (fun x => x == -1) = k at *
  have wk : IntKind.i64.wrap (k + 1) = k + 1 := IntWalk.i64_in _ (by omega)
  go_enter Tryz.func173, Tryz.ntmps173
  go_wp2_with (go_at_call 185; refine HL.out.mono ?_; rintro e w' ⟨rfl, hb⟩)
  go_ret
  exact ⟨rfl, hb⟩
theorem fIndex_c (h : ListRep w F st a s.fmts) (i : Int) :
    Calls Tryz.prog 187 #[.pointer (some ⟨st, 0, none⟩), .int .i64 i] w fun e w' => e = .returned (.int .i64 (s.findex i)) ∧ Bel w w' := by
  by_cases h0 : i < 0
  · have e : s.findex i = -1 := by unfold St.findex; simp [h0]
    rw [e]; clear e
    go_enter Tryz.func187, Tryz.ntmps187
    go_wp2
    go_ret
    exact ⟨rfl, bel_alloc _ _⟩
  · have e : s.findex i = s.flast 0 (fun x => x == i) := by unfold St.findex; simp [h0]
    rw [e]
    have hb := bel_alloc w (.cells #[.int .i64 i] 3 (0, 0))
    have HL := Lib.hid (fLast_index (h.bel hb) 0 (Int.le_refl 0) w.heap.size i (blk_cell (heap_alloc_new w _) 0) (by simp))
    clear e
    generalize s.flast 0 (fun x => x == i) = k at *
    go_enter Tryz.func187, Tryz.ntmps187
    go_wp2_with (go_at_call 185; refine HL.out.mono ?_; rintro e w' ⟨rfl, hb2⟩)
    go_ret
    exact ⟨rfl, bel_tr hb hb2⟩
set_option maxHeartbeats 1000000 in
theorem last1_c (h : ListRep w F st a s.fmts) (hA : ArenaRep w Fa a s.nodes) (x : Int) (B1 B2 : Nat) (name : Str) (h1 : w.cell? ⟨B1, 0, none⟩ = some (.pointer (some ⟨st, 0, none⟩))) (h2 : w.cell? ⟨B2, 0, none⟩ = some (.string name)) (l2 : B2 < w.heap.size) :
    Calls Tryz.prog 186 #[.int .i64 x, .pointer (some ⟨B1, 0, none⟩), .pointer (some ⟨B2, 0, none⟩)] w fun e w' => e = .returned (.bool ((s.node x).space == 0 && (s.node x).name == name)) ∧ Bel w w' := by
  obtain ⟨A, cap, c0, c1, _, hs, hr⟩ := h.form
  have hN := aNode_c hA x
  have hnode : nodeAt s.nodes x = s.node x := rfl
  rw [hnode] at hN
  generalize s.node x = n at *
  have q := beqS n.name name
  have HN := Lib.hid hN
  clear hN hr hnode
  have go : ∀ b : Bool, (n.space == 0) = b → ∀ c : Bool, (n.name == name) = c → Calls Tryz.prog 186 #[.int .i64 x, .pointer (some ⟨B1, 0, none⟩), .pointer (some ⟨B2, 0, none⟩)] w fun e w' => e = .returned (.bool (b && c)) ∧ Bel w w' := by
    intro b hb c hc
    rw [hc] at q
    clear hc
    cases b
    · go_enter Tryz.func186, Tryz.ntmps186
      go_wp2_with (go_at_call 46; refine HN.out.mono ?_; rintro e w1 ⟨v1, rfl, ⟨va, vk, rfl, hVa, hVk⟩, hb1⟩; obtain ⟨A1, q1, rfl⟩ := hVa.shape; obtain ⟨A2, q2, rfl⟩ := hVk.shape; unfold ndCells)
      go_ret
      exact ⟨ret_bool (by simp), bel_al hb1⟩
    · have hb' : n.space = 0 := by simpa using hb
      cases c
      · have hne : ¬ n.name.toList = name.toList := by simpa using q
        go_enter Tryz.func186, Tryz.ntmps186
        go_wp2_with (go_at_call 46; refine HN.out.mono ?_; rintro e w1 ⟨v1, rfl, ⟨va, vk, rfl, hVa, hVk⟩, hb1⟩; obtain ⟨A1, q1, rfl⟩ := hVa.shape; obtain ⟨A2, q2, rfl⟩ := hVk.shape; unfold ndCells; have c2 := (hb1.cell (p := ⟨B2, 0, none⟩) l2).trans h2; have z2 := Nat.lt_of_lt_of_le l2 hb1.size)
        go_ret
        exact ⟨ret_bool (by simp), bel_al hb1⟩
      · have hne : n.name.toList = name.toList := by simpa using q
        go_enter Tryz.func186, Tryz.ntmps186
        go_wp2_with (go_at_call 46; refine HN.out.mono ?_; rintro e w1 ⟨v1, rfl, ⟨va, vk, rfl, hVa, hVk⟩, hb1⟩; obtain ⟨A1, q1, rfl⟩ := hVa.shape; obtain ⟨A2, q2, rfl⟩ := hVk.shape; unfold ndCells; have c2 := (hb1.cell (p := ⟨B2, 0, none⟩) l2).trans h2; have z2 := Nat.lt_of_lt_of_le l2 hb1.size)
        go_ret
        exact ⟨ret_bool (by simp), bel_al hb1⟩
  exact go _ rfl _ rfl

set_option maxHeartbeats 1000000 in
theorem fLast_name (h : ListRep w F st a s.fmts) (from_ : Int) (f0 : 0 ≤ from_) (hA : ArenaRep w Fa a s.nodes) (B1 B2 : Nat) (name : Str) (h1 : w.cell? ⟨B1, 0, none⟩ = some (.pointer (some ⟨st, 0, none⟩))) (h2 : w.cell? ⟨B2, 0, none⟩ = some (.string name)) (l1 : B1 < w.heap.size) (l2 : B2 < w.heap.size) :
    Calls Tryz.prog 185 #[.pointer (some ⟨st, 0, none⟩), .int .i64 from_, .func (.func 186) #[] #[.pointer (some ⟨B1, 0, none⟩), .pointer (some ⟨B2, 0, none⟩)]] w fun e w' => e = .returned (.int .i64 (s.flast from_ (fun x => (s.node x).space == 0 && (s.node x).name == name))) ∧ Bel w w' := by
  obtain ⟨A, cap, c0, c1, _, hs, hr⟩ := h.form
  have wk : IntKind.i64.wrap ((s.fmts.length : Int) - 1) = (s.fmts.length : Int) - 1 := IntWalk.i64_in _ (by omega)
  have hstl : st < w.heap.size := by obtain ⟨v, h⟩ := h; exact h.lt st h.Fs
  have HR := Lib.hid hr; clear hr
  go_enter Tryz.func185, Tryz.ntmps185
  go_wp2_with (go_at_call 51; refine (fLen_c h).mono ?_; rintro e w' ⟨rfl, rfl⟩)
  go_loopw [7] (fun x wr => ∃ n : Nat, n ≤ s.fmts.length ∧ x = .int .i64 ((n : Int) - 1) ∧ lastBelow (fun k => decide (from_ ≤ (k : Int)) && (fun x => (s.node x).space == 0 && (s.node x).name == name) (s.fmts.getD k 0)) n = s.flast from_ (fun x => (s.node x).space == 0 && (s.node x).name == name) ∧ Bel w wr) (fun x wr => (intOf x + 1).toNat)
  case atStart => exact ⟨s.fmts.length, Nat.le_refl _, rfl, rfl, Below.refl _ _⟩
  case round =>
    obtain ⟨n, hn1, rfl, heq, hb⟩ := hrel
    have c1' := (hb.cell (p := ⟨st, 1, none⟩) hstl).trans c1
    by_cases hlt : (n : Int) - 1 < from_
    · have hno := lastBelow_none (p := fun k => decide (from_ ≤ (k : Int)) && (fun x => (s.node x).space == 0 && (s.node x).name == name) (s.fmts.getD k 0)) n (fun k hk => by rw [show decide (from_ ≤ (k : Int)) = false from decide_eq_false (by omega)]; rfl)
      rw [hno] at heq
      have HE := Lib.hid heq
      clear heq hno
      have hd : decide (from_ ≤ (n : Int) - 1) = false := by simpa using hlt
      go_wp2
      go_ret
      exact ⟨ret_int HE.out, hb⟩
    · cases n with
      | zero => omega
      | succ n =>
        obtain ⟨b, rfl, hc⟩ := HR.out (by omega)
        have hbl : b < w.heap.size := by
          have := hc n (by omega)
          refine Nat.lt_of_not_le fun hge => ?_
          simp [World.cell?, Array.getElem?_eq_none hge] at this
        have d0 := (hb.cell (p := ⟨b, n, none⟩) hbl).trans (hc n (by omega))
        have e1 : ((n + 1 : Nat) : Int) - 1 = (n : Int) := by omega
        have wn : IntKind.i64.wrap ((n : Int) - 1) = (n : Int) - 1 := IntWalk.i64_in _ (by omega)
        have hge : from_ ≤ (n : Int) := by omega
        have hge2 : (from_ ≤ (n : Int)) = True := by simp [hge]
        rw [e1]
        have hC := last1_c (h.bel hb) (hA.bel hb) (s.fmts.getD n 0) B1 B2 name ((hb.cell (p := ⟨B1, 0, none⟩) l1).trans h1) ((hb.cell (p := ⟨B2, 0, none⟩) l2).trans h2) (Nat.lt_of_lt_of_le l2 hb.size)
        have hp : (fun k : Nat => decide (from_ ≤ (k : Int)) && (fun x => (s.node x).space == 0 && (s.node x).name == name) (s.fmts.getD k 0)) n = (fun x => (s.node x).space == 0 && (s.node x).name == name) (s.fmts.getD n 0) := by simp [hge]
        have hni : (n : Int) < (s.fmts.length : Int) := by omega
        clear hc e1 hlt hge2
        cases hbt : (fun x => (s.node x).space == 0 && (s.node x).name == name) (s.fmts.getD n 0)
        · rw [lastBelow_miss (hp.trans hbt)] at heq
          have hbt' := hbt
          dsimp only at hbt'
          rw [hbt'] at hC
          have HE := Lib.hid heq; have HH := Lib.hid hC; clear heq hC hbt hbt' hp
          generalize s.fmts.getD n 0 = z at *
          go_wp2_with (go_at_call 186; refine HH.out.mono ?_; rintro e w1 ⟨rfl, hb1⟩)
          go_roundw
          case rel => exact ⟨n, by omega, rfl, HE.out, bel_tr hb hb1⟩
          case measure => simp [intOf]
        · rw [lastBelow_hit (hp.trans hbt)] at heq
          have hbt' := hbt
          dsimp only at hbt'
          rw [hbt'] at hC
          have HE := Lib.hid heq; have HH := Lib.hid hC; clear heq hC hbt hbt' hp
          generalize s.fmts.getD n 0 = z at *
          go_wp2_with (go_at_call 186; refine HH.out.mono ?_; rintro e w1 ⟨rfl, hb1⟩)
          go_ret
          exact ⟨ret_int HE.out, bel_tr hb hb1⟩
end Go.Proofs.YtgaebaokcjhcdaaGreatDoor

/- The list of formatting elements: Last, may, At, lay at the end, Remove, Insert at the end; the makers. -/
set_option linter.unusedVariables false
set_option linter.unusedSimpArgs false
namespace Go.Proofs.YtgaebaokcjhcdaaGreatDoor
open Go.RowKit Lz
variable {w : World} {F Fa : Nat → Prop} {st a : Nat} {s : St}

theorem ListV.put {w W w2 : World} {F : Nat → Prop} {st a : Nat} {v v' : Value} {l l' : List Int} (h : ListV w F st a v l) (hb : Bel w W) (hm : Mut (fun k => v.ownBlock = some k) W w2) (hr : IntRow w2 (ownOr v W) v' l') (hl : l'.length ≤ 64) :
    Mut F w (w2.setCell ⟨st, 1, none⟩ v') ∧ ListRep (w2.setCell ⟨st, 1, none⟩ v') (grow F w (w2.setCell ⟨st, 1, none⟩ v')) st a l' := by
  have hown := h.row.own
  have hstl := h.lt st h.Fs
  have hne : v.ownBlock ≠ some st := by
    intro e
    rcases h.row with ⟨e2, _⟩ | ⟨g, c, cur, e2, hF, hbk, _⟩
    · rw [e2] at e; simp [Value.ownBlock] at e
    · rw [e2] at e
      have : g = st := by simpa [Value.ownBlock] using e
      subst this
      exact blk_ne hbk h.blk (by decide) rfl
  have e1 : w2.heap[st]? = w.heap[st]? := (hm.block st (Nat.lt_of_lt_of_le hstl hb.size) hne).trans (hb.block st hstl)
  have hmw : Mut F w w2 := (Mut.of_bel hb).trans (hm.mono fun k hk => .inl (hown k hk))
  refine ⟨hmw.setCell (.inl h.Fs) _, ?_⟩
  rw [grow_set]
  refine ⟨v', ?_, .inl h.Fs, ?_, fun k hk => ?_, hl⟩
  · rw [heap_setCell_same _ _ _ _ _ _ (e1.trans h.blk)]; rfl
  · refine hr.keep2 (fun k hk hob => Below.heap_setCell _ _ _ _ ?_) (fun k hk hob => ?_)
    · rcases hk with hk | hk
      · intro e; exact hne (by rw [hk]; exact congrArg some e)
      · intro e; have e : k = st := e; have := hb.size; omega
    · rcases hk with hk | hk
      · exact .inl (hown k hk)
      · refine .inr ⟨Nat.le_trans hb.size hk, hr.blk_lt k hob⟩
  · rcases hk with hk | hk
    · exact Nat.lt_of_lt_of_le (h.lt k hk) (by simpa using hmw.size)
    · simpa using hk.2
theorem ListV.eqv {w : World} {F : Nat → Prop} {st a n cap : Nat} {A : Option Addr} {v : Value} {l : List Int} (h : ListV w F st a v l) (c1 : w.cell? ⟨st, 1, none⟩ = some (.slice A n cap)) : v = .slice A n cap := by
  have e1 := blk_cell h.blk 1
  rw [c1] at e1
  simpa using e1.symm
theorem ListV.stb {w W w2 : World} {F : Nat → Prop} {st a : Nat} {v : Value} {l : List Int} (h : ListV w F st a v l) (hb : Bel w W) (hm : Mut (fun k => v.ownBlock = some k) W w2) : w2.heap[st]? = w.heap[st]? := by
  have hstl := h.lt st h.Fs
  refine (hm.block st (Nat.lt_of_lt_of_le hstl hb.size) (fun e => ?_)).trans (hb.block st hstl)
  rcases h.row with ⟨e2, _⟩ | ⟨g, c, cur, e2, hF, hbk, _⟩
  · rw [e2] at e; simp [Value.ownBlock] at e
  · rw [e2] at e
    have : g = st := by simpa [Value.ownBlock] using e
    subst this
    exact blk_ne hbk h.blk (by decide) rfl

theorem field_kind (w : World) (a0 a1 a2 a3 a4 a5 a6 a7 a8 a9 a10 : Value) : (Instr.field 54 (.agg #[a0, a1, a2, a3, a4, a5, a6, a7, a8, a9, a10]) 0).run Tryz.prog w = .ok a0 w := by kernel_rfl
set_option maxRecDepth 100000 in
theorem fMay_c (h : ListRep w F st a s.fmts) (hA : ArenaRep w Fa a s.nodes) (i : Int) :
    Calls Tryz.prog 119 #[.pointer (some ⟨st, 0, none⟩), .int .i64 i] w fun e w' => e = .returned (.int .i64 (s.mayE i)) ∧ Bel w w' := by
  obtain ⟨A, cap, c0, c1, _, hs, hr⟩ := h.form
  have hN := aNode_c hA i
  have hnode : nodeAt s.nodes i = s.node i := rfl
  rw [hnode] at hN
  have e : s.mayE i = if (s.node i).kind != 3 then 2 else 0 := rfl
  rw [e]
  generalize s.node i = n at *
  have HN := Lib.hid hN
  clear hN hr hnode e
  have hfd := field_kind
  cases hk : n.kind != 3 <;> (
    go_enter Tryz.func119, Tryz.ntmps119
    go_wp2_with (first | (go_at_call 168; refine (fNone_c h).mono ?_; rintro e w' ⟨rfl, rfl⟩) | (go_at_call 46; refine HN.out.mono ?_; rintro e w1 ⟨v1, rfl, ⟨va, vk, rfl, hVa, hVk⟩, hb1⟩; obtain ⟨A1, q1, rfl⟩ := hVa.shape; obtain ⟨A2, q2, rfl⟩ := hVk.shape; unfold ndCells))
    go_ret
    exact ⟨rfl, hb1⟩)

set_option maxRecDepth 100000 in
set_option maxHeartbeats 1000000 in
theorem fLay_end (h : ListRep w F st a s.fmts) (i : Int) :
    Calls Tryz.prog 191 #[.pointer (some ⟨st, 0, none⟩), .int .i64 s.fmts.length, .int .i64 i] w fun e w' => e = .returned (.int .i64 s.layE) ∧ Mut F w w' ∧ ListRep w' (grow F w w') st a (s.lay s.fmts.length i).fmts := by
  have h' := h
  obtain ⟨A, cap, c0, c1, f1, hs, hr⟩ := h.form
  obtain ⟨vv, hv⟩ := h'
  have ev := hv.eqv c1
  subst ev
  have hstl : st < w.heap.size := hv.lt st hv.Fs
  by_cases h6 : (64 : Int) ≤ s.fmts.length
  · have hfin : s.layE = 3 ∧ (s.lay s.fmts.length i).fmts = s.fmts := by
      have e : s.layE = 3 := by unfold St.layE; rw [if_pos h6]
      exact ⟨e, by unfold St.lay; rw [e]; rfl⟩
    rw [hfin.1, hfin.2]
    clear hfin hr hv
    go_enter Tryz.func191, Tryz.ntmps191
    go_wp2
    go_ret
    exact ⟨rfl, Mut.refl _ _, h.refl⟩
  · have hfin : s.layE = 0 ∧ (s.lay s.fmts.length i).fmts = s.fmts ++ [i] := by
      have e : s.layE = 0 := by unfold St.layE; rw [if_neg h6]
      exact ⟨e, by unfold St.lay; rw [e]; simp [putAt]⟩
    rw [hfin.1, hfin.2]
    have hb := bel_alloc w (.cells #[.int .i64 i] 3 (0, 0))
    have hIns := insInt_end _ F _ s.fmts i (hv.row.bel hb) hs w.heap.size 1 (blk_cell (heap_alloc_new w _) 0)
    have HI := Lib.hid hIns; have HV := Lib.hid hv; have HB := Lib.hid hb
    clear hfin hr hv hIns hb
    go_enter Tryz.func191, Tryz.ntmps191
    go_wp2_with (go_at_call 209; refine HI.out.mono ?_; rintro e w2 ⟨g', cap', rfl, hr2, hm2⟩; have ht := HV.out.stb HB.out hm2; have d1 := (World.cell?_of_block (a := ⟨st, 1, none⟩) ht).trans c1; have e1 := (World.frozen?_of_block (a := ⟨st, 1, none⟩) ht).trans f1; clear ht)
    go_ret
    have hput := HV.out.put HB.out hm2 hr2 (by simp; omega)
    exact ⟨rfl, hput.1, hput.2⟩

set_option maxHeartbeats 1000000 in
theorem fRemove_c (h : ListRep w F st a s.fmts) (i : Int) :
    Calls Tryz.prog 147 #[.pointer (some ⟨st, 0, none⟩), .int .i64 i] w fun e w' => e = .returned (.int .i64 (s.fremoveE i)) ∧ Mut F w w' ∧ ListRep w' (grow F w w') st a (s.fremove i).fmts := by
  have hI := fIndex_c h i
  have hlt : s.findex i < (s.fmts.length : Int) := by
    unfold St.findex
    split
    · omega
    · exact lastBelow_lt _ _
  have hge : -1 ≤ s.findex i := by
    unfold St.findex
    split
    · omega
    · exact lastBelow_ge _ _
  have h' := h
  obtain ⟨A, cap, c0, c1, f1, hs, hr⟩ := h.form
  obtain ⟨vv, hv⟩ := h'
  have ev := hv.eqv c1
  subst ev
  by_cases h0 : s.findex i < 0
  · have hfin : s.fremoveE i = 4 ∧ (s.fremove i).fmts = s.fmts := by unfold St.fremoveE St.fremove; simp [h0]
    rw [hfin.1, hfin.2]
    have HI := Lib.hid hI
    clear hI hr hfin hv hlt
    generalize s.findex i = k at *
    go_enter Tryz.func147, Tryz.ntmps147
    go_wp2_with (first | (go_at_call 168; refine (fNone_c h).mono ?_; rintro e w' ⟨rfl, rfl⟩) | (go_at_call 187; refine HI.out.mono ?_; rintro e w' ⟨rfl, hb⟩))
    go_ret
    exact ⟨rfl, Mut.of_bel hb, (h.bel hb).keep (fun _ _ => rfl) (fun _ h => .inl h) (grow_lt h.lt hb.size)⟩
  · have hfin : s.fremoveE i = 0 ∧ (s.fremove i).fmts = s.fmts.eraseIdx (s.findex i).toNat := by
      unfold St.fremoveE St.fremove
      simp only [h0, if_false]
      exact ⟨trivial, by unfold St.fdel cutAt; simp only; rw [List.eraseIdx_eq_take_drop_succ]⟩
    rw [hfin.1, hfin.2]
    obtain ⟨k, hk⟩ : ∃ k : Nat, s.findex i = k := ⟨(s.findex i).toNat, by omega⟩
    rw [hk] at hI hlt ⊢
    clear hfin h0 hk
    simp only [Int.toNat_natCast]
    obtain ⟨q, hq⟩ : ∃ q, s.fmts.length = q + 1 := ⟨s.fmts.length - 1, by omega⟩
    obtain ⟨g, rfl, _⟩ := hr (by omega)
    have hown := hv.row.own g rfl
    have hDel := fun W (hW : Bel w W) => delInt_c W F g cap q k s.fmts (by have := hv.row.bel hW; rw [hq] at this; exact this) hq (by omega) (by omega)
    have wk : IntKind.i64.wrap ((k : Int) + 1) = (k : Int) + 1 := IntWalk.i64_in _ (by omega)
    have hstl : st < w.heap.size := hv.lt st hv.Fs
    rw [hq] at c1
    have HI := Lib.hid hI; have HD := Lib.hid hDel; have HV := Lib.hid hv; have HQ := Lib.hid hq
    clear hI hDel hv hr hq hlt hge
    have k0 : (0 : Int) ≤ (k : Int) := by omega
    go_enter Tryz.func147, Tryz.ntmps147
    go_wp2_with (first | (go_at_call 168; refine (fNone_c h).mono ?_; rintro e w' ⟨rfl, rfl⟩) | (go_at_call 187; refine HI.out.mono ?_; rintro e w1 ⟨rfl, hb⟩; have c1' := (hb.cell (p := ⟨st, 1, none⟩) hstl).trans c1) | (go_at_call 188; refine (HD.out _ hb).mono ?_; rintro e w2 ⟨rfl, hr2, hm2⟩; have ht := HV.out.stb hb (hm2.mono fun k hk => by rw [hk]; rfl); have d1 := (World.cell?_of_block (a := ⟨st, 1, none⟩) ht).trans c1; have e1 := (World.frozen?_of_block (a := ⟨st, 1, none⟩) ht).trans f1; clear ht))
    go_ret
    have hput := HV.out.put hb (hm2.mono fun k hk => by rw [hk]; rfl) (hr2.keep2 (fun _ _ _ => rfl) (fun k _ hob => .inl hob)) (by rw [List.length_eraseIdx]; split <;> omega)
    exact ⟨rfl, hput.1, hput.2⟩
end Go.Proofs.YtgaebaokcjhcdaaGreatDoor

/- The list of formatting elements: Last, At, Insert at the end, Push where nothing is open; the makers. -/
set_option linter.unusedVariables false
set_option linter.unusedSimpArgs false
namespace Go.Proofs.YtgaebaokcjhcdaaGreatDoor
open Go.RowKit Lz
variable {w : World} {F Fa : Nat → Prop} {st a : Nat} {s : St}

set_option maxRecDepth 100000 in
set_option maxHeartbeats 1000000 in
theorem fInsert_end (h : ListRep w F st a s.fmts) (hA : ArenaRep w Fa a s.nodes) (i : Int) :
    Calls Tryz.prog 230 #[.pointer (some ⟨st, 0, none⟩), .int .i64 s.fmts.length, .int .i64 i] w fun e w' => e = .returned (.int .i64 (s.finsertE s.fmts.length i)) ∧ Mut F w w' ∧ ListRep w' (grow F w w') st a (s.finsert s.fmts.length i).fmts := by
  obtain ⟨A, cap, c0, c1, f1, hs, hr⟩ := h.form
  have hM := fMay_c h hA i
  have hL := fun W (hW : Bel w W) => fLay_end (h.bel hW) i
  have hstl : st < w.heap.size := by obtain ⟨v, h⟩ := h; exact h.lt st h.Fs
  have HL := Lib.hid hL; have HLT := Lib.hid h.lt
  clear hL hr
  have e0 : s.mayE i = 0 ∨ s.mayE i = 2 := by unfold St.mayE; split <;> simp
  rcases e0 with e0 | e0
  · have hfin : s.finsertE s.fmts.length i = s.layE ∧ (s.finsert s.fmts.length i).fmts = (s.lay s.fmts.length i).fmts := by
      unfold St.finsertE St.finsert
      rw [e0]
      have n1 : ¬ ((s.fmts.length : Int) < 0) := by omega
      simp [n1]
    rw [hfin.1, hfin.2]
    rw [e0] at hM
    have HM := Lib.hid hM
    clear hfin e0 hM
    generalize (s.lay s.fmts.length i).fmts = l2 at *
    generalize s.layE = le at *
    go_enter Tryz.func230, Tryz.ntmps230
    go_wp2_with (first | (go_at_call 119; refine HM.out.mono ?_; rintro e w1 ⟨rfl, hb⟩; have c1' := (hb.cell (p := ⟨st, 1, none⟩) hstl).trans c1) | (go_at_call 191; refine (HL.out _ hb).mono ?_; rintro e w2 ⟨rfl, hm, hr⟩))
    go_ret
    have hm' : Mut F w w2 := (Mut.of_bel hb).trans (hm.mono fun k hk => .inl hk)
    exact ⟨rfl, hm', hr.keep (fun _ _ => rfl) (grow_bel hb.size) (grow_lt HLT.out hm'.size)⟩
  · have hfin : s.finsertE s.fmts.length i = 2 ∧ (s.finsert s.fmts.length i).fmts = s.fmts := by
      unfold St.finsertE St.finsert
      rw [e0]
      simp
    rw [hfin.1, hfin.2]
    rw [e0] at hM
    have HM := Lib.hid hM
    clear hfin e0 hM
    go_enter Tryz.func230, Tryz.ntmps230
    go_wp2_with (go_at_call 119; refine HM.out.mono ?_; rintro e w1 ⟨rfl, hb⟩)
    go_ret
    exact ⟨rfl, Mut.of_bel hb, (h.bel hb).keep (fun _ _ => rfl) (fun _ h => .inl h) (grow_lt HLT.out hb.size)⟩

theorem alikes_none {s : St} {i : Int} (hop : s.fopen = s.fmts.length) : s.alikes i = [] := by
  unfold St.alikes
  rw [List.filter_eq_nil_iff]
  intro k hk
  have hk' : k < s.fmts.length := by simpa using hk
  have : ¬ s.fopen ≤ (k : Int) := by omega
  simp [St.alikeAt, this]

set_option maxRecDepth 100000 in
set_option maxHeartbeats 2000000 in
theorem fPush_end (h : ListRep w F st a s.fmts) (hA : ArenaRep w Fa a s.nodes) (i : Int) (hop : s.fopen = s.fmts.length) :
    Calls Tryz.prog 149 #[.pointer (some ⟨st, 0, none⟩), .int .i64 i] w fun e w' => e = .returned (.int .i64 (s.fpushE i)) ∧ Mut F w w' ∧ ListRep w' (grow F w w') st a (s.fpush i).fmts := by
  obtain ⟨A, cap, c0, c1, f1, hs, hr⟩ := h.form
  have hM := fMay_c h hA i
  have hL := fun W (hW : Bel w W) => fLay_end (h.bel hW) i
  have hN := fun W (hW : Bel w W) => aNode_c (hA.bel hW) i
  have hO := fun W (hW : Bel w W) => fOpen_c (h.bel hW)
  have hLe := fun W (hW : Bel w W) => fLen_c (h.bel hW)
  have hstl : st < w.heap.size := by obtain ⟨v, h⟩ := h; exact h.lt st h.Fs
  have hnode : nodeAt s.nodes i = s.node i := rfl
  rw [hnode] at hN
  rw [hop] at hO
  have HL := Lib.hid hL; have HLT := Lib.hid h.lt; have HN := Lib.hid hN; have HO := Lib.hid hO; have HLe := Lib.hid hLe
  clear hL hr hN hO hnode hLe
  have wk : IntKind.i64.wrap ((s.fmts.length : Int) - 1) = (s.fmts.length : Int) - 1 := IntWalk.i64_in _ (by omega)
  have e0 : s.mayE i = 0 ∨ s.mayE i = 2 := by unfold St.mayE; split <;> simp
  rcases e0 with e0 | e0
  · have hff : s.ffree i = s := by unfold St.ffree; rw [alikes_none hop]; simp
    have hfin : s.fpushE i = s.layE ∧ (s.fpush i).fmts = (s.lay s.fmts.length i).fmts := by
      unfold St.fpushE St.fpush
      rw [e0, hff]
      simp
    rw [hfin.1, hfin.2]
    rw [e0] at hM
    have HM := Lib.hid hM
    clear hfin e0 hM hff hop
    generalize (s.lay s.fmts.length i).fmts = l2 at *
    generalize s.layE = le at *
    generalize s.node i = n at *
    go_enter Tryz.func149, Tryz.ntmps149
    go_wp2_with (first | (go_at_call 119; refine HM.out.mono ?_; rintro e w1 ⟨rfl, hb⟩; have c0' := (hb.cell (p := ⟨st, 0, none⟩) hstl).trans c0) | (go_at_call 46; refine (HN.out _ hb).mono ?_; rintro e w2 ⟨v2, rfl, ⟨va, vk, rfl, hVa, hVk⟩, hb2⟩; obtain ⟨A1, q1, rfl⟩ := hVa.shape; obtain ⟨A2, q2, rfl⟩ := hVk.shape; unfold ndCells; have hb3 := bel_tr hb hb2; have hbs := hb3.size) | (go_at_call 51; refine (HLe.out _ hb3).mono ?_; rintro e w' ⟨rfl, rfl⟩))
    go_loopw [7, 8, 9] (fun y z x wr => y = .int .i64 0 ∧ z = .int .i64 0 ∧ x = .int .i64 ((s.fmts.length : Int) - 1) ∧ Bel w wr) (fun _ _ _ _ => 0)
    case atStart => exact ⟨rfl, rfl, rfl, hb3⟩
    case round =>
      obtain ⟨rfl, rfl, rfl, hbr⟩ := hrel
      have hd : decide ((s.fmts.length : Int) ≤ (s.fmts.length : Int) - 1) = false := by simp; omega
      clear hb hb2 hb3 hbs c0'
      go_wp2_with (first | (go_at_call 173; refine (HO.out _ hbr).mono ?_; rintro e w3 ⟨rfl, hb3⟩; have hb4 := bel_tr hbr hb3; have c1' := (hb4.cell (p := ⟨st, 1, none⟩) hstl).trans c1) | (go_at_call 191; refine (HL.out _ hb4).mono ?_; rintro e w4 ⟨rfl, hm, hr⟩))
      go_ret
      have hm' : Mut F w w4 := (Mut.of_bel hb4).trans (hm.mono fun k hk => .inl hk)
      exact ⟨rfl, hm', hr.keep (fun _ _ => rfl) (grow_bel hb4.size) (grow_lt HLT.out hm'.size)⟩
  · have hfin : s.fpushE i = 2 ∧ (s.fpush i).fmts = s.fmts := by
      unfold St.fpushE St.fpush
      rw [e0]
      simp
    rw [hfin.1, hfin.2]
    rw [e0] at hM
    have HM := Lib.hid hM
    clear hfin e0 hM
    go_enter Tryz.func149, Tryz.ntmps149
    go_wp2_with (go_at_call 119; refine HM.out.mono ?_; rintro e w1 ⟨rfl, hb⟩)
    go_ret
    exact ⟨rfl, Mut.of_bel hb, (h.bel hb).keep (fun _ _ => rfl) (fun _ h => .inl h) (grow_lt HLT.out hb.size)⟩

set_option maxRecDepth 100000 in
set_option maxHeartbeats 1000000 in
theorem fLastName_c (h : ListRep w F st a s.fmts) (hA : ArenaRep w Fa a s.nodes) (name : Str) :
    Calls Tryz.prog 146 #[.pointer (some ⟨st, 0, none⟩), .string name] w fun e w' => e = .returned (.int .i64 (s.flastName name)) ∧ Bel w w' := by
  obtain ⟨A, cap, c0, c1, f1, hs, hr⟩ := h.form
  have hstl : st < w.heap.size := by obtain ⟨v, h⟩ := h; exact h.lt st h.Fs
  have e : s.flastName name = if s.flast s.fopen (fun x => (s.node x).space == 0 && (s.node x).name == name) < 0 then -1 else s.fmts.getD (s.flast s.fopen (fun x => (s.node x).space == 0 && (s.node x).name == name)).toNat 0 := rfl
  rw [e]
  have h1 : s.flast s.fopen (fun x => (s.node x).space == 0 && (s.node x).name == name) < (s.fmts.length : Int) := lastBelow_lt _ _
  have hfo : 0 ≤ s.fopen := by have := lastBelow_ge (fun k => decide (0 ≤ (k : Int)) && (fun i => i == -1) (s.fmts.getD k 0)) s.fmts.length; unfold St.fopen St.flast; omega
  have hO := fun W (hW : Bel w W) => fOpen_c (h.bel hW)
  have hL := fun W (hW : Bel w W) (B1 B2 : Nat) p1 p2 l1 l2 => fLast_name (h.bel hW) s.fopen hfo (hA.bel hW) B1 B2 name p1 p2 l1 l2
  have HO := Lib.hid hO; have HL := Lib.hid hL; have HR := Lib.hid hr
  clear hO hL hr e
  generalize s.flast s.fopen (fun x => (s.node x).space == 0 && (s.node x).name == name) = k at *
  generalize s.fopen = fo at *
  generalize hrr : (if k < 0 then -1 else s.fmts.getD k.toNat 0) = r at *
  have HRR := Lib.hid hrr
  clear hrr
  have b1 : ∀ W, Bel ((w.alloc (.cells #[.pointer (some ⟨st, 0, none⟩)] 28)).alloc (.cells #[.string name] 9)) W → W.heap[w.heap.size]? = some (.cells #[.pointer (some ⟨st, 0, none⟩)] 28 (0, 0)) ∧ W.heap[w.heap.size + 1]? = some (.cells #[.string name] 9 (0, 0)) := fun W hW =>
    ⟨(hW.block _ (by simp; omega)).trans (heap_alloc2_old w _ _), (hW.block _ (by simp)).trans (heap_alloc2_new w _ _)⟩
  have hb0 := bel_al (o := .cells #[.string name] 9 (0, 0)) (bel_alloc w (.cells #[.pointer (some ⟨st, 0, none⟩)] 28 (0, 0)))
  have HB1 := Lib.hid b1
  clear b1
  go_enter Tryz.func146, Tryz.ntmps146
  go_wp2
  go_region_with (first | (go_at_call 173; refine (HO.out _ (bel_dr hb0)).mono ?_; rintro e w1 ⟨rfl, hb1⟩; have hbo := bel_tr (bel_dr (Below.refl _ _)) hb1; have hbw := bel_tr hb0 hbo; have kx := HB1.out _ hbo; have k1 := blk_cell kx.1 0; have k2 := blk_cell kx.2 0; simp only [List.getElem?_toArray, List.getElem?_cons_zero] at k1 k2) | (go_at_call 185; refine (HL.out _ hbw _ _ k1 k2 (Array.getElem?_eq_some_iff.1 kx.1).1 (Array.getElem?_eq_some_iff.1 kx.2).1).mono ?_; rintro e w2 ⟨rfl, hb2⟩; have hbz := bel_tr hbw hb2; have y1 := blk_cell (HB1.out _ (bel_tr hbo hb2)).1 0; simp only [List.getElem?_toArray, List.getElem?_cons_zero] at y1; have c1' := (hbz.cell (p := ⟨st, 1, none⟩) hstl).trans c1))
  all_goals (
    clear HL HO HB1 k1 k2 kx
    by_cases hk0 : k < 0
    · have HK0 := Lib.hid hk0
      go_wp2
      go_ret
      exact ⟨ret_int (by rw [← HRR.out, if_pos HK0.out]), hbz⟩
    · obtain ⟨b, rfl, hc⟩ := HR.out (by omega)
      have hbl : b < w.heap.size := by
        have := hc k.toNat (by omega)
        refine Nat.lt_of_not_le fun hge => ?_
        simp [World.cell?, Array.getElem?_eq_none hge] at this
      have d0 := (hbz.cell (p := ⟨b, k.toNat, none⟩) hbl).trans (hc k.toNat (by omega))
      have k0 : 0 ≤ k := by omega
      have er : s.fmts.getD k.toNat 0 = r := by rw [← HRR.out, if_neg hk0]
      rw [er] at d0
      clear hc er
      go_wp2
      go_ret
      exact ⟨rfl, hbz⟩)
end Go.Proofs.YtgaebaokcjhcdaaGreatDoor

/- The makers of stack and list. -/
set_option linter.unusedVariables false
set_option linter.unusedSimpArgs false
namespace Go.Proofs.YtgaebaokcjhcdaaGreatDoor
open Go.RowKit Lz
variable {w : World} {F Fa : Nat → Prop} {st a : Nat} {ns : List Nd}

theorem sNew_c (hA : ArenaRep w Fa a ns) :
    Calls Tryz.prog 108 #[.pointer (some ⟨a, 0, none⟩)] w fun e w' => e = .returned (.pointer (some ⟨w.heap.size, 0, none⟩)) ∧ Bel w w' ∧ StackRep w' (fun k => w.heap.size ≤ k ∧ k < w'.heap.size) w.heap.size a [] := by
  have hp : 0 < ns.length := by obtain ⟨_, _, _, _, _, h⟩ := hA; exact h.pos
  have hd : ((ns.length : Int) == 0) = false := by simp; intro e; rw [e] at hp; simp at hp
  have hd2 : ¬ ((ns.length : Int) = 0) := by omega
  have HP := Lib.hid hp
  clear hp
  go_enter Tryz.func108, Tryz.ntmps108
  go_wp2_with (go_at_call 45; refine (aLen_c hA).mono ?_; rintro e w' ⟨rfl, rfl⟩)
  go_ret
  exact ⟨rfl, bel_alloc _ _, .slice none 0 0, heap_alloc_new w _, ⟨Nat.le_refl _, by simp⟩, .inl ⟨rfl, rfl⟩, fun k hk => hk.2, by simp⟩
theorem fNew_c (hA : ArenaRep w Fa a ns) :
    Calls Tryz.prog 109 #[.pointer (some ⟨a, 0, none⟩)] w fun e w' => e = .returned (.pointer (some ⟨w.heap.size, 0, none⟩)) ∧ Bel w w' ∧ ListRep w' (fun k => w.heap.size ≤ k ∧ k < w'.heap.size) w.heap.size a [] := by
  have hp : 0 < ns.length := by obtain ⟨_, _, _, _, _, h⟩ := hA; exact h.pos
  have hd : ((ns.length : Int) == 0) = false := by simp; intro e; rw [e] at hp; simp at hp
  have hd2 : ¬ ((ns.length : Int) = 0) := by omega
  have HP := Lib.hid hp
  clear hp
  go_enter Tryz.func109, Tryz.ntmps109
  go_wp2_with (go_at_call 45; refine (aLen_c hA).mono ?_; rintro e w' ⟨rfl, rfl⟩)
  go_ret
  exact ⟨rfl, bel_alloc _ _, .slice none 0 0, heap_alloc_new w _, ⟨Nat.le_refl _, by simp⟩, .inl ⟨rfl, rfl⟩, fun k hk => hk.2, by simp⟩
end Go.Proofs.YtgaebaokcjhcdaaGreatDoor
