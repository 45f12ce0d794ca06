/- The arena: 'above'; copies of rows; a node handed out. -/
import Derived.Test.YtgaebaokcjhcdaaGreatDoorM01
import Derived.Deep.RegionLaw
import Derived.Deep.RegionHeld3
import Derived.Lib.SliceRun
import Derived.Lib.IndexEntry
import Derived.WalkSpells
import Derived.Laws.CopyOwn
import Derived.Deep.AppendLies

set_option linter.unusedVariables false
set_option linter.unusedSimpArgs false
namespace Go.Proofs.YtgaebaokcjhcdaaGreatDoor
open Go.RowKit Lz
variable {w : World} {F : Nat → Prop} {a : Nat} {ns : List Nd}

/-- How far it still is to the root. -/
def mea (r : Nat → Nat) (j : Int) : Nat := if 0 ≤ j then r j.toNat + 1 else 0
theorem mea_lt {r : Nat → Nat} {j k : Int} (h : 0 ≤ k) (hu : 0 ≤ j → r j.toNat < r k.toNat) : mea r j < mea r k := by
  unfold mea
  by_cases h2 : 0 ≤ j
  · have := hu h2; rw [if_pos h2, if_pos h]; omega
  · rw [if_neg h2, if_pos h]; omega

theorem aAbove_c (h : ArenaRep w F a ns) (i j : Int) (hj : j < (ns.length : Int)) :
    Calls Tryz.prog 129 #[.pointer (some ⟨a, 0, none⟩), .int .i64 i, .int .i64 j] w fun e w' => e = .returned (.bool (aboveN ns i j)) ∧ w = w' := by
  have h' := h
  obtain ⟨g, cap, cur, va, vk, hv⟩ := h'
  obtain ⟨r, hr⟩ := hv.wf.rank
  have hwf := hv.wf
  have hs := hv.small
  have HR := Lib.hid hr; clear hr hv
  go_enter Tryz.func129, Tryz.ntmps129
  go_wp2
  go_loop [2] (fun x => ∃ k : Int, k < (ns.length : Int) ∧ x = .int .i64 k ∧ aboveN ns i k = aboveN ns i j) (fun x => mea r (intOf x))
  case atStart => exact ⟨j, hj, rfl, rfl⟩
  case round =>
    obtain ⟨k, hk, rfl, heq⟩ := hrel
    have hst := aboveN_step hwf i k hk
    by_cases h0 : 0 ≤ k
    · rw [if_neg (by omega)] at hst
      by_cases he : k = i
      · have hb : (k == i) = true := by simp [he]
        rw [hb, if_pos rfl] at hst
        have HE := Lib.hid (heq.symm.trans hst)
        clear heq hst he
        go_wp2
        go_ret
        exact ⟨ret_bool HE.out.symm, rfl⟩
      · have hb : (k == i) = false := beq_eq_false_iff_ne.2 he
        rw [hb] at hst
        have HE := Lib.hid (hst.symm.trans heq)
        have hul := upN_lt hwf h0 hk
        have HU := Lib.hid (HR.out k.toNat (by omega))
        clear heq hst he
        go_wp2_with (go_at_call 170; refine (aUp_c h k h0 hk).mono ?_; rintro e w' ⟨rfl, rfl⟩)
        go_round
        case rel => exact ⟨upN ns k, hul, rfl, HE.out⟩
        case measure =>
          have hu := HU.out
          rw [Int.toNat_of_nonneg h0] at hu
          exact mea_lt h0 hu
    · rw [if_pos (by omega)] at hst
      have HE := Lib.hid (heq.symm.trans hst)
      clear heq hst
      go_wp2
      go_ret
      exact ⟨ret_bool HE.out.symm, rfl⟩

/-! ### Copies -/
theorem Tryz.infoInt : (Tryz.prog.info? 3).map (fun i => (i.zero, i.size, i.bytes)) = some (some (.int .i64 0), 1, 8) := by kernel_rfl
theorem Tryz.infoAttr : (Tryz.prog.info? 113).map (fun i => (i.zero, i.size, i.bytes)) = some (some (.agg #[.string ⟨#[]⟩, .string ⟨#[]⟩]), 2, 32) := by kernel_rfl

def attrVals (l : List (Str × Str)) : List Value := l.flatMap fun x => [.string x.1, .string x.2]
theorem attrVals_length (l : List (Str × Str)) : (attrVals l).length = l.length * 2 := by
  induction l with
  | nil => rfl
  | cons x l ih => simp [attrVals] at ih ⊢; omega
theorem attrVals_at (l : List (Str × Str)) : ∀ i, i < l.length → (attrVals l)[i * 2]? = some (.string (l.getD i (n_empty, n_empty)).1) ∧ (attrVals l)[i * 2 + 1]? = some (.string (l.getD i (n_empty, n_empty)).2) := by
  induction l with
  | nil => intro i hi; simp at hi
  | cons x l ih =>
    intro i hi
    cases i with
    | zero => exact ⟨rfl, rfl⟩
    | succ i =>
      have := ih i (by simpa using hi)
      have e1 : (i + 1) * 2 = i * 2 + 1 + 1 := by omega
      rw [e1]
      simpa [attrVals, List.getD] using this

theorem IntRow.of_own {w : World} {base n : Nat} {v : Value} {xs : List Int} (h : w.ownsRow base 3 1 v n (xs.map fun x => .int .i64 x)) : IntRow w (fun k => base ≤ k) v xs := by
  obtain ⟨hl, h⟩ := h
  have hn : n = xs.length := by simpa using hl.symm
  subst hn
  rcases h with ⟨rfl, h0⟩ | ⟨g, cap, cur, rfl, hb, hg, h1, h2, h3, h4⟩
  · exact .inl ⟨by rfl, List.eq_nil_of_length_eq_zero h0⟩
  · refine .inr ⟨g, cap, cur, rfl, hb, hg, h1, h2, by omega, fun i hi => ?_⟩
    have e : (cur.toList.take (xs.length * 1))[i]? = (xs.map fun x => Value.int .i64 x)[i]? := by rw [h4]
    rw [List.getElem?_take_of_lt (by omega)] at e
    rw [← Array.getElem?_toList, e]
    simp [List.getD, hi]
theorem AttrRow.of_own {w : World} {base n : Nat} {v : Value} {l : List (Str × Str)} (h : w.ownsRow base 113 2 v n (attrVals l)) : AttrRow w (fun k => base ≤ k) v l := by
  obtain ⟨hl, h⟩ := h
  have hn : n = l.length := by rw [attrVals_length] at hl; omega
  subst hn
  rcases h with ⟨rfl, h0⟩ | ⟨g, cap, cur, rfl, hb, hg, h1, h2, h3, h4⟩
  · exact .inl ⟨by rfl, List.eq_nil_of_length_eq_zero h0⟩
  · refine .inr ⟨g, cap, cur, rfl, hb, hg, h1, h2, by omega, fun i hi => ?_⟩
    have e : ∀ j, j < l.length * 2 → cur[j]? = (attrVals l)[j]? := by
      intro j hj
      have e : (cur.toList.take (l.length * 2))[j]? = (attrVals l)[j]? := by rw [h4]
      rw [List.getElem?_take_of_lt hj] at e
      rw [← Array.getElem?_toList, e]
    rw [e _ (by omega), e _ (by omega)]
    exact attrVals_at l i hi

theorem cloneInt_c (w : World) (F : Nat → Prop) (v : Value) (xs : List Int) (h : IntRow w F v xs) (hl : xs.length ≤ 1048576) :
    Calls Tryz.prog 62 #[v] w fun e w' => ∃ v', e = .returned v' ∧ IntRow w' (fun k => w.heap.size ≤ k) v' xs ∧ Bel w w' := by
  obtain ⟨i0, hi, hz0, hz1, hz2⟩ := info_parts Tryz.infoInt
  have q : ∀ (w : World) (a : Option Addr) (n c n' c' : Nat), (binOp .eql 29 (.slice a n c) (.slice none n' c')).run Tryz.prog w = .ok (.bool a.isNone) w := fun w a n c n' c' => Lib.run_eql_slice_nil w _ _ a n c n' c' Tryz.underlying29
  rcases h with ⟨rfl, rfl⟩ | ⟨g, cap, cur, rfl, hF, hb, r1, r2, r3, r⟩
  · clear hi hz0 hz1 hz2 hl
    go_enter Tryz.func62, Tryz.ntmps62
    go_wp2
    go_ret
    exact ⟨_, rfl, .inl ⟨rfl, rfl⟩, Below.refl _ _⟩
  · have hgl : g < w.heap.size := (Array.getElem?_eq_some_iff.1 hb).1
    have A : Hid (∀ i, i < xs.length → w.cell? ⟨g, i, none⟩ = some (.int .i64 (xs.getD i 0))) := fun i hi => by rw [blk_cell hb]; exact r i hi
    clear r r3 hb
    go_enter Tryz.func62, Tryz.ntmps62
    go_wp2_with (at_builtin; refine wpList_append_own _ rfl _ _ 29 rfl w.heap.size 3 i0 (.int .i64 0) 1 8 Tryz.underlying29 hi hz0 hz1 hz2 rfl (by decide) _ _ _ rfl (World.ownsRow_made w #[] 0 (Nat.le_refl _) (Nat.zero_le _) rfl) ⟨g, 0, none⟩ xs.length cap (xs.map fun x => .int .i64 x) rfl ?qc1 ?qc2 ?qc3 ?qc4 ?qc5 ?qc6 ?_)
    case qc1 => simp
    case qc2 =>
      intro j u hj
      have hjn : j < xs.length := by have := (List.getElem?_eq_some_iff.1 hj).1; simpa using this
      rw [Addr.add_lit, Nat.zero_add]
      refine Lib.cell?_alloc_some _ ?_
      rw [A.out j hjn]
      have e : (xs.map fun x => Value.int .i64 x)[j]? = some (Value.int .i64 (xs.getD j 0)) := by simp [List.getD, hjn]
      rw [e] at hj
      exact hj
    case qc3 => intro u hu; obtain ⟨x, _, rfl⟩ := List.mem_map.1 hu; rfl
    case qc4 => unfold maxLen; omega
    case qc5 => omega
    case qc6 => simp
    intro v' w1 hown hgrow hnil
    go_wp2
    go_ret
    exact ⟨v', rfl, IntRow.of_own (by simpa using hown), ((Below.refl _ w).alloc (Nat.le_refl _) _).grown hgrow (by simp) (by intro k hk; simp [Value.ownBlock] at hk; omega)⟩

theorem cloneAttr_c (w : World) (F : Nat → Prop) (v : Value) (xs : List (Str × Str)) (h : AttrRow w F v xs) (hl : xs.length ≤ 1048576) :
    Calls Tryz.prog 113 #[v] w fun e w' => ∃ v', e = .returned v' ∧ AttrRow w' (fun k => w.heap.size ≤ k) v' xs ∧ Bel w w' := by
  obtain ⟨i0, hi, hz0, hz1, hz2⟩ := info_parts Tryz.infoAttr
  have q : ∀ (w : World) (a : Option Addr) (n c n' c' : Nat), (binOp .eql 22 (.slice a n c) (.slice none n' c')).run Tryz.prog w = .ok (.bool a.isNone) w := fun w a n c n' c' => Lib.run_eql_slice_nil w _ _ a n c n' c' Tryz.underlying22
  rcases h with ⟨rfl, rfl⟩ | ⟨g, cap, cur, rfl, hF, hb, r1, r2, r3, r⟩
  · clear hi hz0 hz1 hz2 hl
    go_enter Tryz.func113, Tryz.ntmps113
    go_wp2
    go_ret
    exact ⟨_, rfl, .inl ⟨rfl, rfl⟩, Below.refl _ _⟩
  · have hgl : g < w.heap.size := (Array.getElem?_eq_some_iff.1 hb).1
    have A : Hid (∀ j, j < xs.length * 2 → w.cell? ⟨g, j, none⟩ = (attrVals xs)[j]?) := fun j hj => by
      rw [blk_cell hb]
      have h1 := r (j / 2) (by omega)
      have h2 := attrVals_at xs (j / 2) (by omega)
      rcases (show j = j / 2 * 2 ∨ j = j / 2 * 2 + 1 by omega) with e | e
      · rw [e, h1.1, h2.1]
      · rw [e, h1.2, h2.2]
    clear r r3 hb
    go_enter Tryz.func113, Tryz.ntmps113
    go_wp2_with (at_builtin; refine wpList_append_own _ rfl _ _ 22 rfl w.heap.size 113 i0 (.agg #[.string ⟨#[]⟩, .string ⟨#[]⟩]) 2 32 Tryz.underlying22 hi hz0 hz1 hz2 rfl (by decide) _ _ _ rfl (World.ownsRow_made w #[] 0 (Nat.le_refl _) (Nat.zero_le _) rfl) ⟨g, 0, none⟩ xs.length cap (attrVals xs) rfl ?qc1 ?qc2 ?qc3 ?qc4 ?qc5 ?qc6 ?_)
    case qc1 => exact attrVals_length xs
    case qc2 =>
      intro j u hj
      have hjn : j < xs.length * 2 := by have := (List.getElem?_eq_some_iff.1 hj).1; rwa [attrVals_length] at this
      rw [Addr.add_lit, Nat.zero_add]
      refine Lib.cell?_alloc_some _ ?_
      rw [A.out j hjn]
      exact hj
    case qc3 =>
      intro u hu
      obtain ⟨x, _, hx⟩ := List.mem_flatMap.1 hu
      simp at hx
      rcases hx with rfl | rfl <;> rfl
    case qc4 => unfold maxLen; omega
    case qc5 => omega
    case qc6 => simp
    intro v' w1 hown hgrow hnil
    go_wp2
    go_ret
    exact ⟨v', rfl, AttrRow.of_own (by simpa using hown), ((Below.refl _ w).alloc (Nat.le_refl _) _).grown hgrow (by simp) (by intro k hk; simp [Value.ownBlock] at hk; omega)⟩

theorem IntRow.blk_lt {w : World} {F : Nat → Prop} {v : Value} {xs : List Int} (h : IntRow w F v xs) : ∀ k, v.ownBlock = some k → k < w.heap.size := by
  rcases h with ⟨rfl, _⟩ | ⟨g, cap, cur, rfl, hF, hb, r⟩
  · intro k hk; simp [Value.ownBlock] at hk
  · intro k hk
    have : g = k := by simpa [Value.ownBlock] using hk
    subst this
    exact (Array.getElem?_eq_some_iff.1 hb).1
theorem AttrRow.blk_lt {w : World} {F : Nat → Prop} {v : Value} {xs : List (Str × Str)} (h : AttrRow w F v xs) : ∀ k, v.ownBlock = some k → k < w.heap.size := by
  rcases h with ⟨rfl, _⟩ | ⟨g, cap, cur, rfl, hF, hb, r⟩
  · intro k hk; simp [Value.ownBlock] at hk
  · intro k hk
    have : g = k := by simpa [Value.ownBlock] using hk
    subst this
    exact (Array.getElem?_eq_some_iff.1 hb).1
theorem IntRow.bel {w w' : World} {F : Nat → Prop} {v : Value} {xs : List Int} (h : IntRow w F v xs) (hb : Bel w w') : IntRow w' F v xs := h.keep (fun k _ hk => hb.block k (h.blk_lt k hk)) fun _ h => h
theorem AttrRow.bel {w w' : World} {F : Nat → Prop} {v : Value} {xs : List (Str × Str)} (h : AttrRow w F v xs) (hb : Bel w w') : AttrRow w' F v xs := h.keep (fun k _ hk => hb.block k (h.blk_lt k hk)) fun _ h => h
theorem IntRow.mono {w : World} {F G : Nat → Prop} {v : Value} {xs : List Int} (h : IntRow w F v xs) (hG : ∀ k, F k → G k) : IntRow w G v xs := h.keep (fun _ _ _ => rfl) hG
theorem AttrRow.mono {w : World} {F G : Nat → Prop} {v : Value} {xs : List (Str × Str)} (h : AttrRow w F v xs) (hG : ∀ k, F k → G k) : AttrRow w G v xs := h.keep (fun _ _ _ => rfl) hG
theorem bel_alloc (w : World) (o : Obj) : Bel w (w.alloc o) := (Below.refl _ _).alloc (Nat.le_refl _) o

theorem AttrRow.shape {w : World} {F : Nat → Prop} {v : Value} {l : List (Str × Str)} (h : AttrRow w F v l) : ∃ A cap, v = .slice A l.length cap := by
  rcases h with ⟨rfl, rfl⟩ | ⟨g, cap, cur, rfl, r⟩
  · exact ⟨_, _, rfl⟩
  · exact ⟨_, _, rfl⟩
theorem IntRow.shape {w : World} {F : Nat → Prop} {v : Value} {l : List Int} (h : IntRow w F v l) : ∃ A cap, v = .slice A l.length cap := by
  rcases h with ⟨rfl, rfl⟩ | ⟨g, cap, cur, rfl, r⟩
  · exact ⟨_, _, rfl⟩
  · exact ⟨_, _, rfl⟩

theorem AttrRow.set {w : World} {F : Nat → Prop} {v : Value} {l : List (Str × Str)} {p : Addr} {u : Value} (h : AttrRow w F v l) (hne : ∀ k, F k → k ≠ p.block) : AttrRow (w.setCell p u) F v l := h.keep (fun k hF _ => Below.heap_setCell _ _ _ _ (hne k hF)) fun _ h => h
theorem IntRow.set {w : World} {F : Nat → Prop} {v : Value} {l : List Int} {p : Addr} {u : Value} (h : IntRow w F v l) (hne : ∀ k, F k → k ≠ p.block) : IntRow (w.setCell p u) F v l := h.keep (fun k hF _ => Below.heap_setCell _ _ _ _ (hne k hF)) fun _ h => h

/-- A node as a value. -/
def NodeVal (w : World) (G : Nat → Prop) (v : Value) (n : Nd) : Prop := ∃ va vk, v = .agg (ndCells n va vk).toArray ∧ AttrRow w G va n.attrs ∧ IntRow w G vk n.kids

theorem kids_le {ns : List Nd} (h : WF ns) (p : Nat) (hp : p < ns.length) : (ns.getD p nd0).kids.length ≤ ns.length := by
  have hn := h.nodup p hp
  have hk := h.kid p hp
  generalize (ns.getD p nd0).kids = l at *
  have : (l.map Int.toNat).Nodup := by
    rw [List.Nodup, List.pairwise_map]
    refine hn.imp_of_mem (fun {x y} hx hy hne e => hne ?_)
    have := (hk x hx).1; have := (hk y hy).1; omega
  have h2 : ∀ x ∈ l.map Int.toNat, x < ns.length := by
    intro x hx
    obtain ⟨y, hy, rfl⟩ := List.mem_map.1 hx
    have := (hk y hy); omega
  have h3 := List.Nodup.length_le_of_subset this (l₂ := List.range ns.length) (fun x hx => by simpa using h2 x hx)
  simpa using h3

set_option maxHeartbeats 2000000 in
theorem aNode_c (h : ArenaRep w F a ns) (i : Int) :
    Calls Tryz.prog 46 #[.pointer (some ⟨a, 0, none⟩), .int .i64 i] w fun e w' => ∃ v, e = .returned v ∧ NodeVal w' (fun k => w.heap.size ≤ k) v (nodeAt ns i) ∧ Bel w w' := by
  cases hb : hasN ns i
  · have hfin : nodeAt ns i = nd0 := by
      simp only [hasN, Bool.and_eq_false_iff, decide_eq_false_iff_not] at hb
      unfold nodeAt
      split
      · rw [List.getD_eq_getElem?_getD, List.getElem?_eq_none (by omega)]; rfl
      · rfl
    have HF := Lib.hid hfin; clear hfin
    have HB := Lib.hid hb; clear hb
    go_enter Tryz.func46, Tryz.ntmps46
    go_wp2_with (go_at_call 112; refine (aHas_c (h.bel (bel_alloc _ _)) i).mono ?_; rintro e w' ⟨rfl, rfl⟩; rw [HB.out])
    refine bodyPost_ret (v := .agg (ndCells nd0 (.slice none 0 0) (.slice none 0 0)).toArray) (by simp [results, Tryz.results46, go_sem]; rfl) rfl ⟨_, rfl, ?_, bel_alloc _ _⟩
    rw [HF.out]
    exact ⟨_, _, rfl, .inl ⟨rfl, rfl⟩, .inl ⟨rfl, rfl⟩⟩
  · obtain ⟨hi0, hi1⟩ := (hasN_iff _ _).1 hb
    have h' := h
    obtain ⟨g, cap, cur, va, vk, hv⟩ := h'
    have hs := hv.small
    have c0 := hv.kindc i hi0 hi1
    have c1 := hv.namec i hi0 hi1
    have c2 := hv.textc i hi0 hi1
    have c3 := hv.spacec i hi0 hi1
    have c4 := hv.attrsc i hi0 hi1
    have c5 := hv.dupc i hi0 hi1
    have c6 := hv.parentc i hi0 hi1
    have c7 := hv.contentc i hi0 hi1
    have c8 := hv.kidsc i hi0 hi1
    have c9 := hv.fromc i hi0 hi1
    have c10 := hv.toc i hi0 hi1
    have hh := hv.head
    have hgl : g < w.heap.size := (Array.getElem?_eq_some_iff.1 hv.row).1
    have hal : a < w.heap.size := (Array.getElem?_eq_some_iff.1 hv.blk).1
    have hA := hv.attrs i.toNat (by omega)
    have hK := hv.kids i.toNat (by omega)
    have hAl := hv.asmall i.toNat (by omega)
    have hKl := Nat.le_trans (kids_le hv.wf i.toNat (by omega)) hs
    rw [← nodeAt_nat _ _ hi0] at hA hK hAl hKl
    have HB := Lib.hid hb; clear hb hv
    generalize nodeAt ns i = n at *
    generalize va i.toNat = vA at *
    generalize vk i.toNat = vK at *
    obtain ⟨A1, p1, rfl⟩ := hA.shape
    obtain ⟨A2, p2, rfl⟩ := hK.shape
    go_enter Tryz.func46, Tryz.ntmps46
    go_wp2_with (go_at_call 112; refine (aHas_c (h.bel (bel_alloc _ _)) i).mono ?_; rintro e w' ⟨rfl, rfl⟩; rw [HB.out])
    clear c0 c1 c2 c3 c4 c5 c6 c7 c8 c9 c10 hh h
    go_region_with (first | (go_at_call 113; refine (cloneAttr_c _ F _ n.attrs (hA.bel (by repeat (first | exact Below.refl _ _ | apply bel_dr | apply bel_al))) hAl).mono ?_; rintro e w1 ⟨v1, rfl, hA1, hb1⟩; obtain ⟨A3, p3, rfl⟩ := hA1.shape; have B1 := (hb1.block (w.heap.size + 1) (by simp)).trans (heap_alloc2_new w _ _); have B0 := (hb1.block w.heap.size (by simp; omega)).trans (heap_alloc2_old w _ _); have k8 := blk_cell B1 8; simp only [List.getElem?_toArray, List.getElem?_cons_succ, List.getElem?_cons_zero] at k8) | (go_at_call 62; refine (cloneInt_c _ F _ n.kids (hK.bel (bel_tr (by repeat (first | exact Below.refl _ _ | apply bel_dr | apply bel_al)) hb1)) hKl).mono ?_; rintro e w2 ⟨v2, rfl, hK2, hb2⟩; obtain ⟨A4, p4, rfl⟩ := hK2.shape; have C1 := (hb2.block (w.heap.size + 1) ((Array.getElem?_eq_some_iff.1 B1).1)).trans B1; have C0 := (hb2.block w.heap.size ((Array.getElem?_eq_some_iff.1 B0).1)).trans B0; have hz := (Array.getElem?_eq_some_iff.1 C1).1; have m4 := blk_cell C1 4; have m8 := blk_cell C1 8; have g4 := blk_frozen C1 4; have g8 := blk_frozen C1 8; simp only [List.getElem?_toArray, List.getElem?_cons_succ, List.getElem?_cons_zero] at m4 m8))
    all_goals (
      have m0 := blk_cell C1 0; have m1 := blk_cell C1 1; have m2 := blk_cell C1 2; have m3 := blk_cell C1 3; have m5 := blk_cell C1 5
      have m6 := blk_cell C1 6; have m7 := blk_cell C1 7; have m9 := blk_cell C1 9; have m10 := blk_cell C1 10
      have r0 := blk_cell C0 0; have r1 := blk_cell C0 1; have r2 := blk_cell C0 2; have r3 := blk_cell C0 3; have r4 := blk_cell C0 4; have r5 := blk_cell C0 5
      have r6 := blk_cell C0 6; have r7 := blk_cell C0 7; have r8 := blk_cell C0 8; have r9 := blk_cell C0 9; have r10 := blk_cell C0 10
      have f0 := blk_frozen C0 0; have f1 := blk_frozen C0 1; have f2 := blk_frozen C0 2; have f3 := blk_frozen C0 3; have f4 := blk_frozen C0 4; have f5 := blk_frozen C0 5
      have f6 := blk_frozen C0 6; have f7 := blk_frozen C0 7; have f8 := blk_frozen C0 8; have f9 := blk_frozen C0 9; have f10 := blk_frozen C0 10
      simp only [List.getElem?_toArray, List.getElem?_cons_succ, List.getElem?_cons_zero] at m0 m1 m2 m3 m5 m6 m7 m9 m10 r0 r1 r2 r3 r4 r5 r6 r7 r8 r9 r10
      have hbel := bel_tr hb1 hb2
      have hbw : Bel w w2 := bel_tr (by repeat (first | exact Below.refl _ _ | apply bel_dr | apply bel_al)) hbel
      clear hbel C0 C1 B0 B1 k8
      go_wp2
      have hA2 := hA1.bel hb2
      refine bodyPost_ret (v := .agg (ndCells n (.slice A3 n.attrs.length p3) (.slice A4 n.kids.length p4)).toArray) (by simp [results, Tryz.results46, go_sem, ndCells, r0, r1, r2, r3, r4, r5, r6, r7, r8, r9, r10]) rfl ⟨_, rfl, ⟨_, _, rfl, ?_, ?_⟩, ?_⟩
      · refine AttrRow.mono (F := fun k => w.heap.size + 1 + 1 ≤ k) ?_ (fun k hk => by omega)
        repeat (refine AttrRow.set ?_ (fun k hk => by simp only; omega))
        exact hA2.mono (fun k hk => by simpa using hk)
      · refine IntRow.mono (F := fun k => w.heap.size + 1 + 1 ≤ k) ?_ (fun k hk => by omega)
        repeat (refine IntRow.set ?_ (fun k hk => by simp only; omega))
        exact hK2.mono (fun k hk => by have := hb1.size; simp at this; omega)
      · repeat (refine bel_set ?_ (by simp only; omega))
        exact hbw)
end Go.Proofs.YtgaebaokcjhcdaaGreatDoor

/- The arena: a bare node. -/
set_option linter.unusedVariables false
set_option linter.unusedSimpArgs false
namespace Go.Proofs.YtgaebaokcjhcdaaGreatDoor
open Go.RowKit Lz

set_option maxHeartbeats 1000000 in
theorem bare_c (w : World) (F : Nat → Prop) (n : Nd) (va vk : Value) (hA : AttrRow w F va n.attrs) (hl : n.attrs.length ≤ 1048576) (hk : ∃ A m c, vk = .slice A m c) :
    Calls Tryz.prog 126 #[.agg (ndCells n va vk).toArray] w fun e w' => ∃ va', e = .returned (.agg (ndCells (bareN n) va' (.slice none 0 0)).toArray) ∧ AttrRow w' (fun k => w.heap.size ≤ k) va' n.attrs ∧ Bel w w' := by
  obtain ⟨A1, p1, rfl⟩ := hA.shape
  obtain ⟨A2, m2, p2, rfl⟩ := hk
  unfold ndCells
  go_enter Tryz.func126, Tryz.ntmps126
  go_wp2_with (go_at_call 113; refine (cloneAttr_c _ F _ n.attrs (hA.bel (by repeat (first | exact Below.refl _ _ | apply bel_dr | apply bel_al))) hl).mono ?_; rintro e w1 ⟨v1, rfl, hA1, hb1⟩; obtain ⟨A3, p3, rfl⟩ := hA1.shape; have C1 := (hb1.block (w.heap.size + 1) (by simp)).trans (heap_alloc2_new w _ _); have C0 := (hb1.block w.heap.size (by simp; omega)).trans (heap_alloc2_old w _ _); have hz := (Array.getElem?_eq_some_iff.1 C1).1; have q0 := blk_cell C0 0; have q1 := blk_cell C0 1; have q2 := blk_cell C0 2; have q3 := blk_cell C0 3; have q4 := blk_cell C0 4; have q5 := blk_cell C0 5; have q6 := blk_cell C0 6; have q7 := blk_cell C0 7; have q8 := blk_cell C0 8; have q9 := blk_cell C0 9; have q10 := blk_cell C0 10; have g4 := blk_frozen C0 4; have g6 := blk_frozen C0 6; have g7 := blk_frozen C0 7; have g8 := blk_frozen C0 8; have r0 := blk_cell C1 0; have r1 := blk_cell C1 1; have r2 := blk_cell C1 2; have r3 := blk_cell C1 3; have r4 := blk_cell C1 4; have r5 := blk_cell C1 5; have r6 := blk_cell C1 6; have r7 := blk_cell C1 7; have r8 := blk_cell C1 8; have r9 := blk_cell C1 9; have r10 := blk_cell C1 10; have f0 := blk_frozen C1 0; have f1 := blk_frozen C1 1; have f2 := blk_frozen C1 2; have f3 := blk_frozen C1 3; have f4 := blk_frozen C1 4; have f5 := blk_frozen C1 5; have f6 := blk_frozen C1 6; have f7 := blk_frozen C1 7; have f8 := blk_frozen C1 8; have f9 := blk_frozen C1 9; have f10 := blk_frozen C1 10; simp only [List.getElem?_toArray, List.getElem?_cons_succ, List.getElem?_cons_zero] at q0 q1 q2 q3 q4 q5 q6 q7 q8 q9 q10 r0 r1 r2 r3 r4 r5 r6 r7 r8 r9 r10; have hbw : Bel w w1 := bel_tr (by repeat (first | exact Below.refl _ _ | apply bel_dr | apply bel_al)) hb1; clear C0 C1)
  refine bodyPost_ret (v := .agg (ndCells (bareN n) (.slice A3 n.attrs.length p3) (.slice none 0 0)).toArray) (by simp [results, Tryz.results126, go_sem, ndCells, bareN, r0, r1, r2, r3, r4, r5, r6, r7, r8, r9, r10]) rfl ⟨_, rfl, ?_, ?_⟩
  · refine AttrRow.mono (F := fun k => w.heap.size + 1 + 1 ≤ k) ?_ (fun k hk => by omega)
    repeat (refine AttrRow.set ?_ (fun k hk => by simp only; omega))
    exact hA1.mono (fun k hk => by simpa using hk)
  · repeat (refine bel_set ?_ (by simp only; omega))
    exact hbw
/-- The same, the node written out. -/
theorem bare_x (w : World) (F : Nat → Prop) (n : Nd) (A1 : Option Addr) (m1 p1 : Nat) (A2 : Option Addr) (m2 p2 : Nat) (hA : AttrRow w F (.slice A1 m1 p1) n.attrs) (hl : n.attrs.length ≤ 1048576) :
    Calls Tryz.prog 126 #[.agg #[.int .i64 n.kind, .string n.name, .string n.text, .int .i64 n.space, .slice A1 m1 p1, .bool n.dup, .int .i64 n.parent, .int .i64 n.content, .slice A2 m2 p2, .int .i64 n.frm, .int .i64 n.to]] w fun e w' =>
      ∃ A p, e = .returned (.agg #[.int .i64 n.kind, .string n.name, .string n.text, .int .i64 n.space, .slice A n.attrs.length p, .bool n.dup, .int .i64 (-1), .int .i64 0, .slice none 0 0, .int .i64 n.frm, .int .i64 n.to]) ∧ AttrRow w' (fun k => w.heap.size ≤ k) (.slice A n.attrs.length p) n.attrs ∧ Bel w w' :=
  (bare_c w F n (.slice A1 m1 p1) (.slice A2 m2 p2) hA hl ⟨_, _, _, rfl⟩).mono fun e w' ⟨va, h1, h2, h3⟩ => by
    obtain ⟨A, p, rfl⟩ := h2.shape
    exact ⟨A, p, h1, h2, h3⟩
end Go.Proofs.YtgaebaokcjhcdaaGreatDoor

/- append onto a row at its block's head, with or without room, in one law; a call as one step of a region that draws its order. -/
set_option linter.unusedVariables false
set_option linter.unusedSimpArgs false
namespace Go.Proofs.YtgaebaokcjhcdaaGreatDoor
open Go.RowKit Lz

/-- What append leaves: the row's new block holds what was there, then what came; of the others nothing has turned. -/
structure AppR (w w' : World) (old : Option Nat) (e size n m : Nat) (pre : Nat → Option Value) (news : List Value) (g' cap' : Nat) (cur' : Array Value) : Prop where
  row : w'.heap[g']? = some (.cells cur' e (0, 0))
  le : n + m ≤ cap'
  capm : cap' ≤ maxLen
  fit : cap' * size ≤ cur'.size
  pre : ∀ j, j < n * size → cur'[j]? = pre j
  new : ∀ j, j < news.length → cur'[n * size + j]? = news[j]?
  where_ : old = some g' ∨ w.heap.size ≤ g'
  size : w.heap.size ≤ w'.heap.size
  os : w'.os = w.os
  tape : w'.tape = w.tape
  output : w'.output = w.output
  block : ∀ k, k < w.heap.size → old ≠ some k → w'.heap[k]? = w.heap[k]?
theorem AppR.mut {w w' : World} {old : Option Nat} {e size n m : Nat} {pre : Nat → Option Value} {news : List Value} {g' cap' : Nat} {cur' : Array Value} (h : AppR w w' old e size n m pre news g' cap' cur') {F : Nat → Prop} (hF : ∀ k, old = some k → F k) : Mut F w w' :=
  ⟨h.os, h.tape, h.output, h.size, fun k hk hn => h.block k hk (fun e => hn (hF k e))⟩

theorem AppR.of_own {P : Program} {w w' : World} {base e size n m : Nat} {v' : Value} {olds news : List Value} (hz : 0 < size) (hl : olds.length = n * size) (hm : 0 < n + m) (h : w'.ownsRow base e size v' (n + m) (olds ++ news)) (hb : w.heap.size ≤ base) (hg : w.grownBy w' none) :
    ∃ g' cap' cur', v' = .slice (some ⟨g', 0, none⟩) (n + m) cap' ∧ AppR w w' none e size n m (fun j => olds[j]?) news g' cap' cur' := by
  obtain ⟨h0, h | ⟨g', cap', cur', rfl, hbg, hh, h1, h2, h3, h4⟩⟩ := h
  · omega
  · have hl2 : news.length = m * size := by
      rw [List.length_append, hl, Nat.add_mul] at h0; omega
    have e1 : ∀ j, j < (n + m) * size → cur'[j]? = (olds ++ news)[j]? := by
      intro j hj
      have e : (cur'.toList.take ((n + m) * size))[j]? = (olds ++ news)[j]? := by rw [h4]
      rw [List.getElem?_take_of_lt hj] at e
      rw [← Array.getElem?_toList, e]
    refine ⟨g', cap', cur', rfl, hh, h1, h2, by omega, fun j hj => ?_, fun j hj => ?_, .inr (Nat.le_trans hb hbg), hg.size, hg.os, hg.tape, hg.output, fun k hk _ => hg.block k hk (by simp)⟩
    · rw [e1 j (by rw [Nat.add_mul]; omega), List.getElem?_append_left (by omega)]
    · rw [e1 _ (by rw [Nat.add_mul]; omega), ← hl, List.getElem?_append_right (by omega)]
      congr 1; omega

section
variable {P : Program} (w : World)
theorem run_append_r (t ty e : TypeId) (i : TypeInfo) (z : Value) (size bytes : Nat) (ht : P.underlying t = some (.slice e)) (hi : P.info? e = some i) (hz : i.zero = some z)
    (hsize : i.size = size) (hby : i.bytes = bytes) (hzs : z.cells.size = size) (hsz : 0 < size)
    (g n cap : Nat) (cur : Array Value) (hg : w.heap[g]? = some (.cells cur e (0, 0))) (hcap : cap ≤ maxLen) (hfit : cap * size ≤ cur.size) (hn : n ≤ cap)
    (a : Addr) (m c : Nat) (news : List Value) (hl : news.length = m * size) (hnews : ∀ j u, news[j]? = some u → w.cell? (a.add j) = some u) (h1 : ∀ u ∈ news, u.oneCell' = true)
    (h63 : n + m ≤ maxLen) (hbytes : (n + m) * bytes ≤ 140737488355328) :
    ∃ g' cap' cur' w', (Builtin.append_ #[t, t] ty #[.slice (some ⟨g, 0, none⟩) n cap, .slice (some a) m c]).run P w = .ok (.slice (some ⟨g', 0, none⟩) (n + m) cap') w' ∧
      AppR w w' (some g) e size n m (fun j => cur[j]?) news g' cap' cur' := by
  have hns : n * size ≤ cap * size := Nat.mul_le_mul_right _ hn
  by_cases hr : n + m ≤ cap
  · have hfit2 : n * size + news.length ≤ cur.size := by
      have : (n + m) * size ≤ cap * size := Nat.mul_le_mul_right _ hr
      rw [Nat.add_mul] at this; omega
    subst hsize
    refine ⟨g, cap, _, _, run_append_room (P := P) w t ty e i ht hi g n cap cur hg a m c news hl hnews h1 hr hfit2, setRow_heap _ _ _ _ _ _ hg, hr, hcap, ?_, fun j hj => ?_, fun j hj => ?_, .inl rfl, by simp, rfl, rfl, rfl, fun k hk hne => setRow_other _ _ _ _ (fun e => hne (by rw [e]))⟩
    · simp only [List.size_toArray, List.length_append, List.length_take, List.length_drop, Array.length_toList]; omega
    · simp only [List.getElem?_toArray]
      rw [List.append_assoc, List.getElem?_append_left (by simp; omega), List.getElem?_take_of_lt hj, Array.getElem?_toList]
    · simp only [List.getElem?_toArray]
      have hlt : (List.take (n * i.size) cur.toList).length = n * i.size := by simp; omega
      rw [List.append_assoc, List.getElem?_append_right (by omega), hlt, List.getElem?_append_left (by omega)]
      congr 1; omega
  · have hol : (cur.toList.take (n * size)).length = n * size := by simp; omega
    obtain ⟨v', w', hrun, ho, hgr⟩ := run_append_arg_grows (P := P) w t ty e i z size bytes ht hi hz hsize hby hzs hsz ⟨g, 0, none⟩ n cap (cur.toList.take (n * size)) hol (fun j u hj => by
      rw [add_head, blk_cell hg]
      have hjl : j < n * size := by have := (List.getElem?_eq_some_iff.1 hj).1; omega
      rw [List.getElem?_take_of_lt hjl, Array.getElem?_toList] at hj
      exact hj) a m c news hl hnews (by omega) h63 hbytes
    obtain ⟨g', cap', cur', rfl, hA⟩ := AppR.of_own (P := P) hsz hol (by omega) ho (Nat.le_refl _) hgr
    exact ⟨g', cap', cur', w', hrun, { hA with pre := fun j hj => (hA.pre j hj).trans (by rw [List.getElem?_take_of_lt hj, Array.getElem?_toList]), where_ := .inr (hA.where_.resolve_left (by simp)), block := fun k hk hne => hA.block k hk (by simp) }⟩
  where add_head {g j : Nat} : (⟨g, 0, none⟩ : Addr).add j = ⟨g, j, none⟩ := by unfold Addr.add; split <;> simp_all

theorem run_append_rnil (t ty e : TypeId) (i : TypeInfo) (z : Value) (size bytes : Nat) (ht : P.underlying t = some (.slice e)) (hi : P.info? e = some i) (hz : i.zero = some z)
    (hsize : i.size = size) (hby : i.bytes = bytes) (hzs : z.cells.size = size) (hsz : 0 < size)
    (a : Addr) (m c : Nat) (news : List Value) (hl : news.length = m * size) (hnews : ∀ j u, news[j]? = some u → w.cell? (a.add j) = some u) (h1 : ∀ u ∈ news, u.oneCell' = true)
    (hm : 0 < m) (h63 : m ≤ maxLen) (hbytes : m * bytes ≤ 140737488355328) :
    ∃ g' cap' cur' w', (Builtin.append_ #[t, t] ty #[.slice none 0 0, .slice (some a) m c]).run P w = .ok (.slice (some ⟨g', 0, none⟩) (0 + m) cap') w' ∧
      AppR w w' none e size 0 m (fun j => (none : Option Value)) news g' cap' cur' := by
  obtain ⟨v', w', hrun, ho, hgr, _⟩ := run_append_own (P := P) w w.heap.size t ty e i z size bytes ht hi hz hsize hby hzs hsz (.slice none 0 0) 0 [] (World.ownsRow_nil _ _ _ _) a m c news hl hnews h1 (by omega) (by simpa using hbytes) (Nat.le_refl _)
  obtain ⟨g', cap', cur', rfl, hA⟩ := AppR.of_own (P := P) hsz (by simp) (by omega) ho (Nat.le_refl _) hgr
  exact ⟨g', cap', cur', w', hrun, { hA with pre := fun j hj => by simp at hj }⟩
end

/-- For the walk: append onto a row. -/
theorem wpList_append_r {P : Program} {ops : Array Oper} {rest : List Oper} {o : Oper} {a : Act} {w : World} {Q : Exit → Act → World → Prop} (hgd : o.guard = none) (s x : Operand) (t : TypeId)
    (ho : o.op = .call { callee := .builtin .append, args := #[s, x], argTypes := #[t, t] })
    (e : TypeId) (i : TypeInfo) (z : Value) (size bytes : Nat) (ht : P.underlying t = some (.slice e)) (hi : P.info? e = some i) (hz : i.zero = some z)
    (hsize : i.size = size) (hby : i.bytes = bytes) (hzs : z.cells.size = size) (hsz : 0 < size)
    (g n cap : Nat) (cur : Array Value) (hs : a.eval s = .slice (some ⟨g, 0, none⟩) n cap) (hg : w.heap[g]? = some (.cells cur e (0, 0))) (hcap : cap ≤ maxLen) (hfit : cap * size ≤ cur.size) (hn : n ≤ cap)
    (ad : Addr) (m c : Nat) (news : List Value) (hx : a.eval x = .slice (some ad) m c) (hl : news.length = m * size) (hnews : ∀ j u, news[j]? = some u → w.cell? (ad.add j) = some u) (h1 : ∀ u ∈ news, u.oneCell' = true)
    (h63 : n + m ≤ maxLen) (hbytes : (n + m) * bytes ≤ 140737488355328)
    (h : ∀ g' cap' cur' w', AppR w w' (some g) e size n m (fun j => cur[j]?) news g' cap' cur' → wpList P ops Q rest (a.put o.dst (.slice (some ⟨g', 0, none⟩) (n + m) cap')) w') : wpList P ops Q (o :: rest) a w := by
  refine wpList_plain hgd fun K hK => ?_
  obtain ⟨g', cap', cur', w', hr, hA⟩ := run_append_r (P := P) w t o.type e i z size bytes ht hi hz hsize hby hzs hsz g n cap cur hg hcap hfit hn ad m c news hl hnews h1 h63 hbytes
  unfold Oper.wp execOp
  simp only [ho, resolve, invoke, builtin, Sem.run_bind, Sem.run_pure, Result.andThen_ok, List.map_toArray, List.map_cons, List.map_nil, hs, hx, hr]
  exact hK _ _ (h g' cap' cur' w' hA)
theorem wpList_append_rnil {P : Program} {ops : Array Oper} {rest : List Oper} {o : Oper} {a : Act} {w : World} {Q : Exit → Act → World → Prop} (hgd : o.guard = none) (s x : Operand) (t : TypeId)
    (ho : o.op = .call { callee := .builtin .append, args := #[s, x], argTypes := #[t, t] })
    (e : TypeId) (i : TypeInfo) (z : Value) (size bytes : Nat) (ht : P.underlying t = some (.slice e)) (hi : P.info? e = some i) (hz : i.zero = some z)
    (hsize : i.size = size) (hby : i.bytes = bytes) (hzs : z.cells.size = size) (hsz : 0 < size) (hs : a.eval s = .slice none 0 0)
    (ad : Addr) (m c : Nat) (news : List Value) (hx : a.eval x = .slice (some ad) m c) (hl : news.length = m * size) (hnews : ∀ j u, news[j]? = some u → w.cell? (ad.add j) = some u) (h1 : ∀ u ∈ news, u.oneCell' = true)
    (hm : 0 < m) (h63 : m ≤ maxLen) (hbytes : m * bytes ≤ 140737488355328)
    (h : ∀ g' cap' cur' w', AppR w w' none e size 0 m (fun j => none) news g' cap' cur' → wpList P ops Q rest (a.put o.dst (.slice (some ⟨g', 0, none⟩) (0 + m) cap')) w') : wpList P ops Q (o :: rest) a w := by
  refine wpList_plain hgd fun K hK => ?_
  obtain ⟨g', cap', cur', w', hr, hA⟩ := run_append_rnil (P := P) w t o.type e i z size bytes ht hi hz hsize hby hzs hsz ad m c news hl hnews h1 hm h63 hbytes
  unfold Oper.wp execOp
  simp only [ho, resolve, invoke, builtin, Sem.run_bind, Sem.run_pure, Result.andThen_ok, List.map_toArray, List.map_cons, List.map_nil, hs, hx, hr]
  exact hK _ _ (h g' cap' cur' w' hA)

/-- As one step of a region that draws. -/
theorem step_append_r {P : Program} {ops : Array Oper} {o : Oper} {a : Act} {w : World} {K : Act → World → Prop} {Q : Exit → Act → World → Prop} {E : Prop} (hgd : o.guard = none) (s x : Operand) (t : TypeId)
    (ho : o.op = .call { callee := .builtin .append, args := #[s, x], argTypes := #[t, t] })
    (e : TypeId) (i : TypeInfo) (z : Value) (size bytes : Nat) (ht : P.underlying t = some (.slice e)) (hi : P.info? e = some i) (hz : i.zero = some z)
    (hsize : i.size = size) (hby : i.bytes = bytes) (hzs : z.cells.size = size) (hsz : 0 < size)
    (g n cap : Nat) (cur : Array Value) (hs : a.eval s = .slice (some ⟨g, 0, none⟩) n cap) (hg : w.heap[g]? = some (.cells cur e (0, 0))) (hcap : cap ≤ maxLen) (hfit : cap * size ≤ cur.size) (hn : n ≤ cap)
    (ad : Addr) (m c : Nat) (news : List Value) (hx : a.eval x = .slice (some ad) m c) (hl : news.length = m * size) (hnews : ∀ j u, news[j]? = some u → w.cell? (ad.add j) = some u) (h1 : ∀ u ∈ news, u.oneCell' = true)
    (h63 : n + m ≤ maxLen) (hbytes : (n + m) * bytes ≤ 140737488355328)
    (h : ∀ g' cap' cur' w', AppR w w' (some g) e size n m (fun j => cur[j]?) news g' cap' cur' → K (a.put o.dst (.slice (some ⟨g', 0, none⟩) (n + m) cap')) w') :
    if Region.wanted o (yielded ops a.tmps) = true then Oper.wp P o a w K Q else E := by
  have hw : Region.wanted o (yielded ops a.tmps) = true := by simp [Region.wanted, hgd]
  rw [if_pos hw]
  obtain ⟨g', cap', cur', w', hr, hA⟩ := run_append_r (P := P) w t o.type e i z size bytes ht hi hz hsize hby hzs hsz g n cap cur hg hcap hfit hn ad m c news hl hnews h1 h63 hbytes
  unfold Oper.wp execOp
  simp only [ho, resolve, invoke, builtin, Sem.run_bind, Sem.run_pure, Result.andThen_ok, List.map_toArray, List.map_cons, List.map_nil, hs, hx, hr]
  exact h g' cap' cur' w' hA
theorem step_append_rnil {P : Program} {ops : Array Oper} {o : Oper} {a : Act} {w : World} {K : Act → World → Prop} {Q : Exit → Act → World → Prop} {E : Prop} (hgd : o.guard = none) (s x : Operand) (t : TypeId)
    (ho : o.op = .call { callee := .builtin .append, args := #[s, x], argTypes := #[t, t] })
    (e : TypeId) (i : TypeInfo) (z : Value) (size bytes : Nat) (ht : P.underlying t = some (.slice e)) (hi : P.info? e = some i) (hz : i.zero = some z)
    (hsize : i.size = size) (hby : i.bytes = bytes) (hzs : z.cells.size = size) (hsz : 0 < size) (hs : a.eval s = .slice none 0 0)
    (ad : Addr) (m c : Nat) (news : List Value) (hx : a.eval x = .slice (some ad) m c) (hl : news.length = m * size) (hnews : ∀ j u, news[j]? = some u → w.cell? (ad.add j) = some u) (h1 : ∀ u ∈ news, u.oneCell' = true)
    (hm : 0 < m) (h63 : m ≤ maxLen) (hbytes : m * bytes ≤ 140737488355328)
    (h : ∀ g' cap' cur' w', AppR w w' none e size 0 m (fun j => none) news g' cap' cur' → K (a.put o.dst (.slice (some ⟨g', 0, none⟩) (0 + m) cap')) w') :
    if Region.wanted o (yielded ops a.tmps) = true then Oper.wp P o a w K Q else E := by
  have hw : Region.wanted o (yielded ops a.tmps) = true := by simp [Region.wanted, hgd]
  rw [if_pos hw]
  obtain ⟨g', cap', cur', w', hr, hA⟩ := run_append_rnil (P := P) w t o.type e i z size bytes ht hi hz hsize hby hzs hsz ad m c news hl hnews h1 hm h63 hbytes
  unfold Oper.wp execOp
  simp only [ho, resolve, invoke, builtin, Sem.run_bind, Sem.run_pure, Result.andThen_ok, List.map_toArray, List.map_cons, List.map_nil, hs, hx, hr]
  exact h g' cap' cur' w' hA
theorem run_callFunc_go {P : Program} {f : FuncId} {fn : Func} (args : Array Value) (w : World) (hf : P.funcs[f]? = some fn) (hname : (fn.name == "runtime.NumGoroutine") = false) (hb : fn.body.isNone = false) :
    (callFunc f args).run P w = .ok (.enter f args) w := by
  have h1 : ¬ fn.name = "runtime.NumGoroutine" := by simpa using hname
  have h2 : ¬ fn.body = none := by intro e; rw [e] at hb; cases hb
  simp [callFunc, hf, h1, h2]
/-- A call of a Go function as one step of a region that draws. -/
theorem step_call {P : Program} {ops : Array Oper} {o : Oper} {a : Act} {w : World} {K : Act → World → Prop} {Q : Exit → Act → World → Prop} {E : Prop} {R : Ending → World → Prop} (hgd : o.guard = none) (f : FuncId) (xs : Array Operand) (ats : Array TypeId) (args : Array Value)
    (ho : o.op = .call { callee := .value (.func f), args := xs, argTypes := ats }) (hx : #[] ++ xs.map a.eval ++ #[] = args) {fn : Func} (hf : P.funcs[f]? = some fn) (hname : (fn.name == "runtime.NumGoroutine") = false) (hb : fn.body.isNone = false)
    (hc : Calls P f args w R) (hR : ∀ e w', R e w' → ∃ v, e = .returned v ∧ K (a.put o.dst v) w') :
    if Region.wanted o (yielded ops a.tmps) = true then Oper.wp P o a w K Q else E := by
  have hw : Region.wanted o (yielded ops a.tmps) = true := by simp [Region.wanted, hgd]
  rw [if_pos hw]
  have e : execOp a.eval o = callFunc f args := by
    rw [← hx]
    obtain ⟨dst, op, ty, pos, after, guard⟩ := o
    simp only at ho
    subst ho
    rfl
  unfold Oper.wp
  rw [e, run_callFunc_go args w hf hname hb, Oper.upon_enter]
  refine hc.mono fun e w' h => ?_
  obtain ⟨v, rfl, hv⟩ := hR e w' h
  exact hv
theorem step_call1 {P : Program} {ops : Array Oper} {o : Oper} {a : Act} {w : World} {K : Act → World → Prop} {Q : Exit → Act → World → Prop} {E : Prop} {R : Ending → World → Prop} (hgd : o.guard = none) (f : FuncId) (x : Operand) (ats : Array TypeId) (v : Value)
    (ho : o.op = .call { callee := .value (.func f), args := #[x], argTypes := ats }) (hx : a.eval x = v) {fn : Func} (hf : P.funcs[f]? = some fn) (hname : (fn.name == "runtime.NumGoroutine") = false) (hb : fn.body.isNone = false)
    (hc : Calls P f #[v] w R) (hR : ∀ e w', R e w' → ∃ v, e = .returned v ∧ K (a.put o.dst v) w') :
    if Region.wanted o (yielded ops a.tmps) = true then Oper.wp P o a w K Q else E :=
  step_call hgd f #[x] ats #[v] ho (by simp [hx]) hf hname hb hc hR
theorem step_call2 {P : Program} {ops : Array Oper} {o : Oper} {a : Act} {w : World} {K : Act → World → Prop} {Q : Exit → Act → World → Prop} {E : Prop} {R : Ending → World → Prop} (hgd : o.guard = none) (f : FuncId) (x y : Operand) (ats : Array TypeId) (v u : Value)
    (ho : o.op = .call { callee := .value (.func f), args := #[x, y], argTypes := ats }) (hx : a.eval x = v) (hy : a.eval y = u) {fn : Func} (hf : P.funcs[f]? = some fn) (hname : (fn.name == "runtime.NumGoroutine") = false) (hb : fn.body.isNone = false)
    (hc : Calls P f #[v, u] w R) (hR : ∀ e w', R e w' → ∃ v, e = .returned v ∧ K (a.put o.dst v) w') :
    if Region.wanted o (yielded ops a.tmps) = true then Oper.wp P o a w K Q else E :=
  step_call hgd f #[x, y] ats #[v, u] ho (by simp [hx, hy]) hf hname hb hc hR
end Go.Proofs.YtgaebaokcjhcdaaGreatDoor

/- The arena: Add. -/
set_option linter.unusedVariables false
set_option linter.unusedSimpArgs false
namespace Go.Proofs.YtgaebaokcjhcdaaGreatDoor
open Go.RowKit Lz

theorem Tryz.infoNode : (Tryz.prog.info? 54).map (fun i => (i.zero, i.size, i.bytes)) = some (some (.agg (ndCells nd0 (.slice none 0 0) (.slice none 0 0)).toArray), 11, 136) := by kernel_rfl

/-- A bare node more owes nothing. -/
theorem WF.add {ns : List Nd} (h : WF ns) (n : Nd) (hk : n.kind ≠ 6 ∨ 0 < ns.length) : WF (ns ++ [bareN n]) := by
  have hg : ∀ i, i < ns.length → (ns ++ [bareN n]).getD i nd0 = ns.getD i nd0 := fun i hi => by simp [List.getD, List.getElem?_append_left hi]
  have hl : (ns ++ [bareN n]).getD ns.length nd0 = bareN n := by simp [List.getD]
  have hna : ∀ x : Int, 0 ≤ x → x < (ns.length : Int) → nodeAt (ns ++ [bareN n]) x = nodeAt ns x := fun x h0 h1 => by rw [nodeAt_nat _ _ h0, nodeAt_nat _ _ h0, hg _ (by omega)]
  have hlen : (ns ++ [bareN n]).length = ns.length + 1 := by simp
  have hlast : ∀ i, i < (ns ++ [bareN n]).length → ¬ i < ns.length → i = ns.length := fun i h1 h2 => by omega
  refine ⟨fun p hp x hx => ?_, fun p hp => ?_, fun i hi => ?_, fun i hi hi6 => ?_, ?_⟩
  · by_cases hp' : p < ns.length
    · rw [hg p hp'] at hx
      obtain ⟨h0, h1, h2⟩ := h.kid p hp' x hx
      exact ⟨h0, by rw [hlen]; omega, by rw [hna x h0 h1]; exact h2⟩
    · obtain rfl := hlast p hp hp'
      rw [hl] at hx; simp [bareN] at hx
  · by_cases hp' : p < ns.length
    · rw [hg p hp']; exact h.nodup p hp'
    · obtain rfl := hlast p hp hp'
      rw [hl]; simp [bareN]
  · by_cases hi' : i < ns.length
    · rw [hg i hi']
      rcases h.parent i hi' with h1 | ⟨h1, h2⟩
      · exact .inl h1
      · by_cases h0 : (ns.getD i nd0).parent < 0
        · exact .inl h0
        · exact .inr ⟨by rw [hlen]; omega, by rw [hna _ (by omega) h1]; exact h2⟩
    · obtain rfl := hlast i hi hi'
      rw [hl]; left; simp [bareN]
  · by_cases hi' : i < ns.length
    · rw [hg i hi'] at hi6 ⊢; exact h.content i hi' hi6
    · obtain rfl := hlast i hi hi'
      rw [hl] at hi6 ⊢
      exact ⟨by rcases hk with hk | hk; exact absurd hi6 hk; omega, by simp [bareN]⟩
  · obtain ⟨r, hb, hr⟩ := h.ranked
    refine ⟨fun i => if i < ns.length then r i else ns.length + 1, fun i hi hu => ?_⟩
    by_cases hi' : i < ns.length
    · have e : upN (ns ++ [bareN n]) i = upN ns i := by unfold upN; rw [hna _ (by omega) (by omega)]
      rw [e] at hu ⊢
      have := upN_lt h (i := (i : Int)) (by omega) (by omega)
      dsimp only
      rw [if_pos hi', if_pos (by omega)]
      exact hr i hi' hu
    · obtain rfl := hlast i hi hi'
      have e : upN (ns ++ [bareN n]) ns.length = if n.kind == 6 then (ns.length : Int) - 1 else -1 := by
        unfold upN; rw [nodeAt_cast, hl]; rfl
      rw [e] at hu ⊢
      dsimp only
      rw [if_neg hi']
      split at hu
      · rename_i h6
        rw [if_pos h6, if_pos (by omega)]
        have := hb ((ns.length : Int) - 1).toNat; omega
      · omega

/-- What Add's append and store leave. -/
theorem arena_added {w w1 W w2 : World} {F : Nat → Prop} {a g cap g' cap' : Nat} {cur cur' : Array Value} {va vk : Nat → Value} {ns : List Nd} {n : Nd} {v3 : Value} (hv : ArenaV w F a g cap cur va vk ns) (hb1 : Bel w w1) (hbW : Bel w1 W)
    (hA1 : AttrRow w1 (fun k => w.heap.size ≤ k) v3 n.attrs) (hApp : AppR W w2 (some g) 54 11 ns.length 1 (fun j => cur[j]?) (ndCells (bareN n) v3 (.slice none 0 0)) g' cap' cur')
    (hwf : WF (ns ++ [bareN n])) (hsm : ns.length + 1 ≤ 1048576) (hal : n.attrs.length ≤ 1048576) :
    Mut F w (w2.setCell ⟨a, 0, none⟩ (.slice (some ⟨g', 0, none⟩) (ns.length + 1) cap')) ∧
    ArenaV (w2.setCell ⟨a, 0, none⟩ (.slice (some ⟨g', 0, none⟩) (ns.length + 1) cap')) (grow F w (w2.setCell ⟨a, 0, none⟩ (.slice (some ⟨g', 0, none⟩) (ns.length + 1) cap'))) a g' cap' cur'
      (fun i => if i = ns.length then v3 else va i) (fun i => if i = ns.length then .slice none 0 0 else vk i) (ns ++ [bareN n]) := by
  have hbw : Bel w W := bel_tr hb1 hbW
  have hal' : a < w.heap.size := hv.lt a hv.Fa
  have hag : a ≠ g := blk_ne hv.blk hv.row (by decide)
  have hm2 : Mut F w w2 := (Mut.of_bel hbw).trans ((hApp.mut (F := F) (fun k e => by cases e; exact hv.Fg)).mono (fun k h => .inl h))
  have hm : Mut F w (w2.setCell ⟨a, 0, none⟩ (.slice (some ⟨g', 0, none⟩) (ns.length + 1) cap')) := hm2.setCell (.inl hv.Fa) _
  have hga : g' ≠ a := by
    rcases hApp.where_ with e | e
    · cases e; exact fun e => hag e.symm
    · have := hbw.size; omega
  have hw2a : w2.heap[a]? = w.heap[a]? := (hApp.block a (Nat.lt_of_lt_of_le hal' hbw.size) (by intro e; cases e; exact hag rfl)).trans (hbw.block a hal')
  have hset : ∀ k, k ≠ a → (w2.setCell ⟨a, 0, none⟩ (.slice (some ⟨g', 0, none⟩) (ns.length + 1) cap')).heap[k]? = w2.heap[k]? := fun k hk => Below.heap_setCell _ _ _ _ hk
  have hold : ∀ k, k < w.heap.size → k ≠ a → k ≠ g → (w2.setCell ⟨a, 0, none⟩ (.slice (some ⟨g', 0, none⟩) (ns.length + 1) cap')).heap[k]? = w.heap[k]? := fun k hk h1 h2 =>
    (hset k h1).trans ((hApp.block k (Nat.lt_of_lt_of_le hk hbw.size) (by intro e; cases e; exact h2 rfl)).trans (hbw.block k hk))
  have hnew : ∀ k, w.heap.size ≤ k → k < w1.heap.size → (w2.setCell ⟨a, 0, none⟩ (.slice (some ⟨g', 0, none⟩) (ns.length + 1) cap')).heap[k]? = w1.heap[k]? := fun k hk hk1 =>
    (hset k (by omega)).trans ((hApp.block k (Nat.lt_of_lt_of_le hk1 hbW.size) (by have := hv.lt g hv.Fg; intro e; cases e; omega)).trans (hbW.block k hk1))
  generalize hw3 : w2.setCell ⟨a, 0, none⟩ (.slice (some ⟨g', 0, none⟩) (ns.length + 1) cap') = w3 at *
  have hsz3 : w3.heap.size = w2.heap.size := by rw [← hw3]; simp
  have hg3 : ∀ k, F k → k < w3.heap.size := fun k hk => Nat.lt_of_lt_of_le (hv.lt k hk) hm.size
  have hgl : ∀ i, i < ns.length → (ns ++ [bareN n]).getD i nd0 = ns.getD i nd0 := fun i hi => by simp [List.getD, List.getElem?_append_left hi]
  have hll : (ns ++ [bareN n]).getD ns.length nd0 = bareN n := by simp [List.getD]
  have hlen : (ns ++ [bareN n]).length = ns.length + 1 := by simp
  refine ⟨hm, ?_⟩
  refine { blk := ?_, Fa := .inl hv.Fa, Fg := ?_, row := ?_, pos := by rw [hlen]; omega, le := by rw [hlen]; exact hApp.le, capm := hApp.capm, fit := hApp.fit, cells := ?_, attrs := ?_, kids := ?_, apart := ?_, lt := ?_, small := by rw [hlen]; exact hsm, asmall := ?_, wf := hwf }
  · rw [← hw3, heap_setCell_same _ _ _ _ _ _ (hw2a.trans hv.blk), hlen]; rfl
  · rcases hApp.where_ with e | e
    · cases e; exact .inl hv.Fg
    · refine .inr ⟨Nat.le_trans hbw.size e, ?_⟩
      rw [hsz3]; exact (Array.getElem?_eq_some_iff.1 hApp.row).1
  · rw [hset g' hga]; exact hApp.row
  · intro i j hi hj
    by_cases hi' : i < ns.length
    · rw [hgl i hi', if_neg (by omega), if_neg (by omega), hApp.pre _ (by omega)]
      exact hv.cells i j hi' hj
    · have : i = ns.length := by omega
      subst this
      rw [hll, if_pos rfl, if_pos rfl, hApp.new j (by simp [ndCells]; omega)]
  · intro i hi
    by_cases hi' : i < ns.length
    · rw [hgl i hi']; simp only [if_neg (show ¬ i = ns.length by omega)]
      exact (hv.attrs i hi').keepT (fun k cs hF hb => hold k (hv.lt k hF) (blk_ne hb hv.blk (by decide)) (blk_ne hb hv.row (by decide))) (fun k hF => .inl hF)
    · have : i = ns.length := by omega
      subst this
      rw [hll]; simp only [if_true]
      exact hA1.keep2 (fun k hk hob => hnew k hk (hA1.blk_lt k hob)) (fun k hk hob => .inr ⟨hk, by have := hA1.blk_lt k hob; have := hbW.size; have := hApp.size; omega⟩)
  · intro i hi
    by_cases hi' : i < ns.length
    · rw [hgl i hi']; simp only [if_neg (show ¬ i = ns.length by omega)]
      exact (hv.kids i hi').keepT (fun k cs hF hb => hold k (hv.lt k hF) (blk_ne hb hv.blk (by decide)) (blk_ne hb hv.row (by decide))) (fun k hF => .inl hF)
    · have : i = ns.length := by omega
      subst this
      rw [hll]; simp only [if_true]
      exact .inl ⟨rfl, rfl⟩
  · intro i j b hi hj h1 h2
    split at h1
    · simp [Value.ownBlock] at h1
    · split at h2
      · simp [Value.ownBlock] at h2
      · exact hv.apart i j b (by omega) (by omega) h1 h2
  · intro k hk
    rcases hk with hk | hk
    · exact hg3 k hk
    · exact hk.2
  · intro i hi
    by_cases hi' : i < ns.length
    · rw [hgl i hi']; exact hv.asmall i hi'
    · have : i = ns.length := by omega
      subst this
      rw [hll]; exact hal

set_option maxHeartbeats 2000000 in
set_option maxRecDepth 100000 in
theorem aAdd_c (w : World) (F : Nat → Prop) (a : Nat) (ns : List Nd) (G : Nat → Prop) (n : Nd) (va vk : Value) (h : ArenaRep w F a ns) (hA : AttrRow w G va n.attrs) (hl : n.attrs.length ≤ 1048576) (hvk : ∃ A m c, vk = .slice A m c)
    (hk : kidKind n.kind = true) (hroom : ns.length + 2 ≤ 1048576) (ht : isTemplate n = false) :
    Calls Tryz.prog 59 #[.pointer (some ⟨a, 0, none⟩), .agg (ndCells n va vk).toArray] w fun e w' => e = .returned (.int .i64 ns.length) ∧ Mut F w w' ∧ ArenaRep w' (grow F w w') a (addN ns n) := by
  obtain ⟨A1, p1, rfl⟩ := hA.shape
  obtain ⟨A2, m2, p2, rfl⟩ := hvk
  obtain ⟨i0, hi, hz0, hz1, hz2⟩ := info_parts Tryz.infoNode
  have h' := h
  obtain ⟨g, cap, cur, va', vk', hv⟩ := h'
  have hh := hv.head
  have hal : a < w.heap.size := (Array.getElem?_eq_some_iff.1 hv.blk).1
  have hgl : g < w.heap.size := (Array.getElem?_eq_some_iff.1 hv.row).1
  have hag : a ≠ g := blk_ne hv.blk hv.row (by decide)
  have hp := hv.pos
  have hKK := kid_c w n.kind
  unfold ndCells
  go_enter Tryz.func59, Tryz.ntmps59
  go_wp2_with (first | (go_at_call 121; refine (aNone_c (h.bel (bel_alloc _ _))).mono ?_; rintro e w' ⟨rfl, rfl⟩) | (go_at_call 125; refine (kid_c _ n.kind).mono ?_; rintro e w' ⟨rfl, rfl⟩; rw [hk]))
  clear hKK
  have hwfa : WF (ns ++ [bareN n]) := hv.wf.add n (.inr hp)
  have hnsn : addN ns n = ns ++ [bareN n] := by unfold addN; rw [ht]; rfl
  have HN := Lib.hid hnsn; clear hnsn
  have nm : (Tryz.f126.name == "runtime.NumGoroutine") = false := by kernel_rfl
  have bd : Tryz.f126.body.isNone = false := by kernel_rfl
  have hAw : ∀ o, AttrRow (w.alloc o).drew G (.slice A1 n.attrs.length p1) n.attrs := fun o => hA.bel (bel_dr (bel_alloc w o))
  go_region_law (first
    | (refine step_call1 rfl 126 (.tmp 24) #[54] _ rfl rfl Tryz.func126 nm bd (bare_x _ G n A1 n.attrs.length p1 A2 m2 p2 (hAw _) hl) ?_; rintro e w1 ⟨A3, p3, rfl, hA1, hb1⟩; have hbw : Bel w w1 := bel_tr (by repeat (first | exact Below.refl _ _ | apply bel_dr | apply bel_al)) hb1; have ca1 := (hbw.cell (p := ⟨a, 0, none⟩) hal).trans hh; have fa1 := (hbw.frozen (p := ⟨a, 0, none⟩) hal).trans (hv.headf 0); have hsz := hbw.size; have hal1 : a < w1.heap.size := Nat.lt_of_lt_of_le hal hsz; refine ⟨_, rfl, ?_⟩)
    | (refine step_append_r rfl (.tmp 23) (.tmp 26) 47 rfl 54 i0 (.agg (ndCells nd0 (.slice none 0 0) (.slice none 0 0)).toArray) 11 136 Tryz.underlying47 hi hz0 hz1 hz2 rfl (by decide) g ns.length cap cur rfl ((Below.heap_alloc _ _ _ (Nat.lt_of_lt_of_le hgl hsz)).trans ((hbw.block g hgl).trans hv.row)) hv.capm hv.fit hv.le ⟨w1.heap.size, 0, none⟩ 1 1 (ndCells (bareN n) (.slice A3 n.attrs.length p3) (.slice none 0 0)) rfl rfl (by exact World.news_of_block (heap_alloc_new w1 _)) (by simp [ndCells, Value.oneCell']) (by unfold maxLen; omega) (by omega) ?_; intro g' cap' cur' w2 hApp; have ca2 := (World.cell?_of_block (a := ⟨a, 0, none⟩) (hApp.block a (by simp; omega) (by simp; omega))).trans ((World.cell?_alloc_past _ a 0 (by omega)).trans ca1); have fa2 := (World.frozen?_of_block (a := ⟨a, 0, none⟩) (hApp.block a (by simp; omega) (by simp; omega))).trans ((World.frozen?_alloc_past _ a 0 (by omega)).trans fa1)))
  all_goals (
    have B0 := (hb1.block w.heap.size (by simp)).trans (heap_alloc_new w _)
    have B2 := (hApp.block w.heap.size (Nat.lt_of_lt_of_le (Array.getElem?_eq_some_iff.1 B0).1 (by simp)) (by intro e; cases e; exact absurd hgl (by omega))).trans ((Below.heap_alloc _ _ _ (Array.getElem?_eq_some_iff.1 B0).1).trans B0)
    have q0 := blk_cell B2 0; have q3 := blk_cell B2 3; have q1 := blk_cell B2 1
    have hne : w.heap.size ≠ a := by omega
    simp only [List.getElem?_toArray, List.getElem?_cons_succ, List.getElem?_cons_zero] at q0 q3 q1
    have hfin := arena_added hv hbw (bel_alloc w1 _) (hA1.mono (fun k hk => by simp at hk; omega)) hApp
    have HF := Lib.hid hfin
    clear hfin B0 B2 hv h hA hA1 hb1 hbw ca1 fa1 hAw
    have hcase : (n.kind == 3) = false ∨ ((n.kind == 3) = true ∧ (n.space == 0) = false) ∨ ((n.kind == 3) = true ∧ (n.space == 0) = true ∧ (n.name.toList == [116, 101, 109, 112, 108, 97, 116, 101]) = false) := by
      have e : (n.name.toList == [116, 101, 109, 112, 108, 97, 116, 101]) = (n.name == n_template) := beqD n.name n_template
      rw [e]; unfold isTemplate at ht
      cases h1 : n.kind == 3 <;> cases h2 : n.space == 0 <;> simp_all
    rcases hcase with c1 | ⟨c1, c2⟩ | ⟨c1, c2, c3⟩
    all_goals (
      go_wp2
      go_ret
      obtain ⟨hm, hV⟩ := HF.out (hwfa) (by omega) hl
      exact ⟨rfl, hm, ⟨_, _, _, _, _, by rw [HN.out]; exact hV⟩⟩))
end Go.Proofs.YtgaebaokcjhcdaaGreatDoor

/- The arena's rows after one store into a node. -/
set_option linter.unusedVariables false
set_option linter.unusedSimpArgs false
namespace Go.Proofs.YtgaebaokcjhcdaaGreatDoor
open Go.RowKit Lz

theorem getD_modify {ns : List Nd} {p : Nat} {f : Nd → Nd} (i : Nat) (hi : i < ns.length) : (ns.modify p f).getD i nd0 = if i = p then f (ns.getD i nd0) else ns.getD i nd0 := by
  simp only [List.getD_eq_getElem?_getD, List.getElem?_modify, List.getElem?_eq_getElem hi, Option.map_some, Option.getD_some]
  by_cases h : p = i
  · simp [h]
  · have h' : ¬ i = p := fun e => h e.symm
    simp [h, h']

namespace ArenaP
variable {w : World} {F : Nat → Prop} {a g cap : Nat} {cur : Array Value} {va vk : Nat → Value} {ns : List Nd}
theorem ag (h : ArenaP w F a g cap cur va vk ns) : a ≠ g := blk_ne h.blk h.row (by decide)
theorem inr (h : ArenaP w F a g cap cur va vk ns) {i j : Nat} (hi : i < ns.length) (hj : j < 11) : i * 11 + j < cur.size := by
  have := h.fit; have := h.le
  have : (i + 1) * 11 ≤ cap * 11 := Nat.mul_le_mul_right _ (by omega)
  omega
/-- One cell of node p is written: of the others, nothing has turned. -/
theorem setNode (h : ArenaP w F a g cap cur va vk ns) (p c : Nat) (hp : p < ns.length) (hc : c < 11) (u : Value) (f : Nd → Nd) (vp : Value)
    {w1 : World} {F1 : Nat → Prop} (hkb : ∀ k cs t, F k → t ≠ 3 → w.heap[k]? = some (.cells cs t (0, 0)) → w1.heap[k]? = w.heap[k]?)
    (hkk : ∀ i, i < ns.length → i ≠ p → ∀ b, (vk i).ownBlock = some b → w1.heap[b]? = w.heap[b]?)
    (hF : ∀ k, F k → F1 k) (hlt : ∀ k, F1 k → k < w1.heap.size)
    (hcells : ∀ j, j < 11 → (ndCells (f (ns.getD p nd0)) (va p) vp)[j]? = if j = c then some u else (ndCells (ns.getD p nd0) (va p) (vk p))[j]?)
    (hattrs : (f (ns.getD p nd0)).attrs = (ns.getD p nd0).attrs)
    (hrow : IntRow w1 F1 vp (f (ns.getD p nd0)).kids)
    (hap : ∀ i, i < ns.length → i ≠ p → ∀ b, (vk i).ownBlock = some b → vp.ownBlock ≠ some b) :
    ArenaP (w1.setCell ⟨g, p * 11 + c, none⟩ u) F1 a g cap (cur.setIfInBounds (p * 11 + c) u) va (fun i => if i = p then vp else vk i) (ns.modify p f) := by
  have hag := h.ag
  have hset : ∀ k, k ≠ g → (w1.setCell ⟨g, p * 11 + c, none⟩ u).heap[k]? = w1.heap[k]? := fun k hk => Below.heap_setCell _ _ _ _ hk
  have hga : w1.heap[a]? = w.heap[a]? := hkb a _ _ h.Fa (by decide) h.blk
  have hgg : w1.heap[g]? = w.heap[g]? := hkb g _ _ h.Fg (by decide) h.row
  have hlen : (ns.modify p f).length = ns.length := by simp
  have hint : ∀ k cs, w1.heap[k]? = some (.cells cs 3 (0, 0)) → k ≠ g := fun k cs hb => blk_ne hb (hgg.trans h.row) (by decide)
  refine { blk := ?_, Fa := hF _ h.Fa, Fg := hF _ h.Fg, row := ?_, pos := by rw [hlen]; exact h.pos, le := by rw [hlen]; exact h.le, capm := h.capm, fit := by simpa using h.fit, cells := ?_, attrs := ?_, kids := ?_, apart := ?_, lt := ?_, small := by rw [hlen]; exact h.small, asmall := ?_ }
  · rw [hset a hag, hga, h.blk, hlen]
  · rw [heap_setCell_same _ _ _ _ _ _ (hgg.trans h.row)]
  · intro i j hi hj
    rw [hlen] at hi
    rw [getD_modify i hi, Array.getElem?_setIfInBounds]
    by_cases hip : i = p
    · subst hip
      simp only [if_true]
      rw [hcells j hj]
      by_cases hjc : j = c
      · subst hjc
        rw [if_pos rfl, if_pos rfl, if_pos (h.inr hi hj)]
      · rw [if_neg (by omega), if_neg hjc]
        exact h.cells i j hi hj
    · rw [if_neg (by omega)]
      simp only [if_neg hip]
      exact h.cells i j hi hj
  · intro i hi
    rw [hlen] at hi
    rw [getD_modify i hi]
    have e : (if i = p then f (ns.getD i nd0) else ns.getD i nd0).attrs = (ns.getD i nd0).attrs := by
      split
      · rename_i e; subst e; exact hattrs
      · rfl
    rw [e]
    exact (h.attrs i hi).keepT (fun k cs hFk hb => (hset k (blk_ne hb h.row (by decide))).trans (hkb k _ _ hFk (by decide) hb)) hF
  · intro i hi
    rw [hlen] at hi
    rw [getD_modify i hi]
    by_cases hip : i = p
    · subst hip
      simp only [if_true]
      exact hrow.keepT (fun k cs _ hb => hset k (hint k cs hb)) (fun _ h => h)
    · simp only [if_neg hip]
      refine (h.kids i hi).keep (fun k hFk hob => ?_) hF
      have hne : k ≠ g := by
        rcases h.kids i hi with ⟨e, _⟩ | ⟨g2, c2, cur2, e, _, hb, _⟩
        · rw [e] at hob; simp [Value.ownBlock] at hob
        · rw [e] at hob
          have : g2 = k := by simpa [Value.ownBlock] using hob
          subst this
          exact blk_ne hb h.row (by decide)
      exact (hset k hne).trans (hkk i hi hip k hob)
  · intro i j b hi hj h1 h2
    rw [hlen] at hi hj
    by_cases hip : i = p <;> by_cases hjp : j = p
    · omega
    · simp only [if_pos hip, if_neg hjp] at h1 h2
      exact absurd h1 (hap j hj hjp b h2)
    · simp only [if_neg hip, if_pos hjp] at h1 h2
      exact absurd h2 (hap i hi hip b h1)
    · simp only [if_neg hip, if_neg hjp] at h1 h2
      exact h.apart i j b hi hj h1 h2
  · intro k hk; simpa using hlt k hk
  · intro i hi
    rw [hlen] at hi
    rw [getD_modify i hi]
    split
    · rename_i e; subst e; rw [hattrs]; exact h.asmall i hi
    · exact h.asmall i hi
/-- A store of a node's own number or text: the rows stay. -/
theorem setPlain (h : ArenaP w F a g cap cur va vk ns) (p c : Nat) (hp : p < ns.length) (hc : c < 11) (u : Value) (f : Nd → Nd)
    (hcells : ∀ j, j < 11 → (ndCells (f (ns.getD p nd0)) (va p) (vk p))[j]? = if j = c then some u else (ndCells (ns.getD p nd0) (va p) (vk p))[j]?)
    (hattrs : (f (ns.getD p nd0)).attrs = (ns.getD p nd0).attrs) (hkids : (f (ns.getD p nd0)).kids = (ns.getD p nd0).kids) :
    ArenaP (w.setCell ⟨g, p * 11 + c, none⟩ u) F a g cap (cur.setIfInBounds (p * 11 + c) u) va vk (ns.modify p f) := by
  have := h.setNode p c hp hc u f (vk p) (w1 := w) (F1 := F) (fun _ _ _ _ _ _ => rfl) (fun _ _ _ _ _ => rfl) (fun _ h => h) h.lt hcells hattrs (by rw [hkids]; exact h.kids p hp)
    (fun i hi hne b hb e => hne (h.apart i p b hi hp hb e))
  have e : (fun i => if i = p then vk p else vk i) = vk := by funext i; split; rename_i e; rw [e]; rfl
  rw [e] at this
  exact this
theorem setParent (h : ArenaP w F a g cap cur va vk ns) (i q : Int) (h0 : 0 ≤ i) (h1 : i < (ns.length : Int)) :
    ArenaP (w.setCell ⟨g, i.toNat * 11 + 6, none⟩ (.int .i64 q)) F a g cap (cur.setIfInBounds (i.toNat * 11 + 6) (.int .i64 q)) va vk (Lz.setParent ns i q) :=
  h.setPlain i.toNat 6 (by omega) (by omega) _ _ (fun j hj => by
    rcases (show j = 0 ∨ j = 1 ∨ j = 2 ∨ j = 3 ∨ j = 4 ∨ j = 5 ∨ j = 6 ∨ j = 7 ∨ j = 8 ∨ j = 9 ∨ j = 10 by omega) with rfl | rfl | rfl | rfl | rfl | rfl | rfl | rfl | rfl | rfl | rfl <;> rfl) rfl rfl
theorem setText (h : ArenaP w F a g cap cur va vk ns) (i : Int) (s : Str) (h0 : 0 ≤ i) (h1 : i < (ns.length : Int)) :
    ArenaP (w.setCell ⟨g, i.toNat * 11 + 2, none⟩ (.string ((nodeAt ns i).text ++ s))) F a g cap (cur.setIfInBounds (i.toNat * 11 + 2) (.string ((nodeAt ns i).text ++ s))) va vk (Lz.addText ns i s) := by
  rw [nodeAt_nat _ _ h0]
  exact h.setPlain i.toNat 2 (by omega) (by omega) _ _ (fun j hj => by
    rcases (show j = 0 ∨ j = 1 ∨ j = 2 ∨ j = 3 ∨ j = 4 ∨ j = 5 ∨ j = 6 ∨ j = 7 ∨ j = 8 ∨ j = 9 ∨ j = 10 by omega) with rfl | rfl | rfl | rfl | rfl | rfl | rfl | rfl | rfl | rfl | rfl <;> rfl) rfl rfl
/-- A node's kids are what an append onto their row left. -/
theorem kidsApp (h : ArenaP w F a g cap cur va vk ns) (p : Int) (p0 : 0 ≤ p) (p1 : p < (ns.length : Int)) {W w2 : World} {n m g' cap' : Nat} {pre : Nat → Option Value} {news : List Value} {cur' : Array Value} (hbW : Bel w W)
    (hold : ∀ k, (vk p.toNat).ownBlock = some k → ∃ cs, w.heap[k]? = some (.cells cs 3 (0, 0)))
    (hA : AppR W w2 (vk p.toNat).ownBlock 3 1 n m pre news g' cap' cur') (ks : List Int) (hl : ks.length = n + m) (hnl : news.length = m) (hpre : ∀ j, j < n → pre j = some (.int .i64 (ks.getD j 0))) (hnew : ∀ j, j < m → news[j]? = some (.int .i64 (ks.getD (n + j) 0))) :
    ArenaP (w2.setCell ⟨g, p.toNat * 11 + 8, none⟩ (.slice (some ⟨g', 0, none⟩) (n + m) cap')) (grow F w w2) a g cap (cur.setIfInBounds (p.toNat * 11 + 8) (.slice (some ⟨g', 0, none⟩) (n + m) cap')) va
      (fun i => if i = p.toNat then .slice (some ⟨g', 0, none⟩) (n + m) cap' else vk i) (Lz.setKids ns p ks) := by
  have hlt : ∀ k, F k → k < W.heap.size := fun k hk => Nat.lt_of_lt_of_le (h.lt k hk) hbW.size
  have hg' : grow F w w2 g' := by
    rcases hA.where_ with e | e
    · rcases h.kids p.toNat (by omega) with ⟨e2, _⟩ | ⟨g3, c3, cur3, e2, hF3, _⟩
      · rw [e2] at e; simp [Value.ownBlock] at e
      · rw [e2] at e
        have : g3 = g' := by simpa [Value.ownBlock] using e
        subst this; exact .inl hF3
    · exact .inr ⟨Nat.le_trans hbW.size e, (Array.getElem?_eq_some_iff.1 hA.row).1⟩
  refine h.setNode p.toNat 8 (by omega) (by omega) _ (fun n => { n with kids := ks }) _ (fun k cs t hFk ht hb => ?_) (fun i hi hne b hb => ?_) (fun k hk => .inl hk) (fun k hk => ?_) (fun j hj => ?_) rfl ?_ (fun i hi hne b hb => ?_)
  · refine (hA.block k (hlt k hFk) (fun e => ?_)).trans (hbW.block k (h.lt k hFk))
    obtain ⟨cs', hb'⟩ := hold k e
    rw [hb] at hb'
    injection hb' with hb'
    injection hb' with _ h2 _
    exact ht h2
  · have hbl : b < w.heap.size := (h.kids i hi).elim (fun e => by rw [e.1] at hb; simp [Value.ownBlock] at hb) (fun ⟨g3, c3, cur3, e2, hF3, _⟩ => by
      rw [e2] at hb
      have : g3 = b := by simpa [Value.ownBlock] using hb
      subst this; exact h.lt _ hF3)
    exact (hA.block b (Nat.lt_of_lt_of_le hbl hbW.size) (fun e => hne (h.apart i p.toNat b hi (by omega) hb e))).trans (hbW.block b hbl)
  · rcases hk with hk | hk
    · exact Nat.lt_of_lt_of_le (hlt k hk) hA.size
    · exact hk.2
  · rcases (show j = 0 ∨ j = 1 ∨ j = 2 ∨ j = 3 ∨ j = 4 ∨ j = 5 ∨ j = 6 ∨ j = 7 ∨ j = 8 ∨ j = 9 ∨ j = 10 by omega) with rfl | rfl | rfl | rfl | rfl | rfl | rfl | rfl | rfl | rfl | rfl <;> rfl
  · refine .inr ⟨g', cap', cur', by simp only [hl], hg', hA.row, by simp only [hl]; exact hA.le, hA.capm, by have := hA.fit; omega, fun i hi => ?_⟩
    simp only at hi ⊢
    by_cases hin : i < n
    · rw [hA.pre i (by omega), hpre i hin]
    · have := hA.new (i - n) (by omega)
      rw [show n * 1 + (i - n) = i by omega] at this
      rw [this, hnew (i - n) (by omega), show n + (i - n) = i by omega]
  · simp only [Value.ownBlock]
    intro e
    have e' : g' = b := by simpa using e
    subst e'
    rcases hA.where_ with e2 | e2
    · exact hne (h.apart i p.toNat g' hi (by omega) hb e2)
    · rcases h.kids i hi with ⟨e3, _⟩ | ⟨g3, c3, cur3, e3, hF3, _⟩
      · rw [e3] at hb; simp [Value.ownBlock] at hb
      · rw [e3] at hb
        have : g3 = g' := by simpa [Value.ownBlock] using hb
        subst this
        have := hlt _ hF3; omega
end ArenaP
end Go.Proofs.YtgaebaokcjhcdaaGreatDoor
