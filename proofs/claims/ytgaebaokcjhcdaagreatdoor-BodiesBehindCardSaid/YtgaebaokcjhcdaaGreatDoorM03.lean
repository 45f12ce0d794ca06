/- Plain: taking a node from its parent, and hanging it, leave the tree well-formed. -/
import Derived.Test.YtgaebaokcjhcdaaGreatDoorM02
import Derived.IntWalk

set_option linter.unusedVariables false
set_option linter.unusedSimpArgs false
namespace Go.Proofs.YtgaebaokcjhcdaaGreatDoor
open Lz

theorem getD_modify' {ns : List Nd} {p : Nat} {f : Nd → Nd} (i : Nat) (hi : i < ns.length) : (ns.modify p f).getD i nd0 = if i = p then f (ns.getD i nd0) else ns.getD i nd0 := by
  simp only [List.getD_eq_getElem?_getD, List.getElem?_modify, List.getElem?_eq_getElem hi, Option.map_some, Option.getD_some]
  by_cases h : p = i
  · simp [h]
  · have h' : ¬ i = p := fun e => h e.symm
    simp [h, h']
theorem nodeAt_setKids (ns : List Nd) (p : Int) (l : List Int) (hp0 : 0 ≤ p) (x : Int) (h0 : 0 ≤ x) (h1 : x < (ns.length : Int)) : nodeAt (setKids ns p l) x = if x = p then { nodeAt ns x with kids := l } else nodeAt ns x := by
  rw [nodeAt_nat _ _ h0, nodeAt_nat _ _ h0]
  unfold setKids
  rw [getD_modify' _ (by omega)]
  by_cases h : x = p
  · rw [if_pos (by omega), if_pos h]
  · rw [if_neg (by omega), if_neg h]
theorem nodeAt_setParent (ns : List Nd) (p : Int) (q : Int) (hp0 : 0 ≤ p) (x : Int) (h0 : 0 ≤ x) (h1 : x < (ns.length : Int)) : nodeAt (setParent ns p q) x = if x = p then { nodeAt ns x with parent := q } else nodeAt ns x := by
  rw [nodeAt_nat _ _ h0, nodeAt_nat _ _ h0]
  unfold setParent
  rw [getD_modify' _ (by omega)]
  by_cases h : x = p
  · rw [if_pos (by omega), if_pos h]
  · rw [if_neg (by omega), if_neg h]
@[simp] theorem setKids_length (ns : List Nd) (p : Int) (l : List Int) : (setKids ns p l).length = ns.length := by simp [setKids]
@[simp] theorem setParent_length (ns : List Nd) (p q : Int) : (setParent ns p q).length = ns.length := by simp [setParent]
@[simp] theorem addText_length (ns : List Nd) (p : Int) (s : Str) : (addText ns p s).length = ns.length := by simp [addText]

theorem cutAt_erase (l : List Int) (x : Int) : cutAt l (l.idxOf x) = l.erase x := by
  rw [List.erase_eq_eraseIdx_of_idxOf rfl, List.eraseIdx_eq_take_drop_succ]; rfl

/-- The same, in terms of nodes by their number. -/
structure WFn (ns : List Nd) : Prop where
  kid : ∀ p, 0 ≤ p → p < (ns.length : Int) → ∀ x ∈ (nodeAt ns p).kids, 0 ≤ x ∧ x < (ns.length : Int) ∧ (nodeAt ns x).parent = p
  nodup : ∀ p, 0 ≤ p → p < (ns.length : Int) → (nodeAt ns p).kids.Nodup
  parent : ∀ i, 0 ≤ i → i < (ns.length : Int) → (nodeAt ns i).parent < 0 ∨ ((nodeAt ns i).parent < (ns.length : Int) ∧ i ∈ (nodeAt ns (nodeAt ns i).parent).kids)
  content : ∀ i, 0 ≤ i → i < (ns.length : Int) → (nodeAt ns i).kind = 6 → 1 ≤ i ∧ (nodeAt ns i).parent < 0
  rank : ∃ r : Int → Nat, ∀ i, 0 ≤ i → i < (ns.length : Int) → 0 ≤ upN ns i → r (upN ns i) < r i
theorem WF.n {ns : List Nd} (h : WF ns) : WFn ns := by
  have e : ∀ i : Int, 0 ≤ i → nodeAt ns i = ns.getD i.toNat nd0 := fun i hi => nodeAt_nat _ _ hi
  refine ⟨fun p h0 h1 x hx => ?_, fun p h0 h1 => ?_, fun i h0 h1 => ?_, fun i h0 h1 h6 => ?_, ?_⟩
  · rw [e p h0] at hx
    have := h.kid p.toNat (by omega) x hx
    rwa [Int.toNat_of_nonneg h0] at this
  · rw [e p h0]; exact h.nodup _ (by omega)
  · have := h.parent i.toNat (by omega)
    rwa [← e i h0, Int.toNat_of_nonneg h0] at this
  · rw [e i h0] at h6
    have := h.content i.toNat (by omega) h6
    rw [← e i h0] at this
    exact ⟨by omega, this.2⟩
  · obtain ⟨r, hr⟩ := h.rank
    refine ⟨fun i => r i.toNat, fun i h0 h1 hu => ?_⟩
    have := hr i.toNat (by omega)
    rw [Int.toNat_of_nonneg h0] at this
    exact this hu
theorem WFn.wf {ns : List Nd} (h : WFn ns) : WF ns := by
  have e : ∀ i : Nat, nodeAt ns (i : Int) = ns.getD i nd0 := fun i => nodeAt_cast _ _
  refine ⟨fun p hp x hx => ?_, fun p hp => ?_, fun i hi => ?_, fun i hi h6 => ?_, ?_⟩
  · rw [← e p] at hx; exact h.kid p (by omega) (by omega) x hx
  · rw [← e p]; exact h.nodup p (by omega) (by omega)
  · rw [← e i]; exact h.parent i (by omega) (by omega)
  · rw [← e i] at h6 ⊢
    have := h.content i (by omega) (by omega) h6
    exact ⟨by omega, this.2⟩
  · obtain ⟨r, hr⟩ := h.rank
    refine ⟨fun i => r (i : Int), fun i hi hu => ?_⟩
    have := hr i (by omega) (by omega) hu
    show r (((upN ns (i : Int)).toNat : Nat) : Int) < r i
    rw [Int.toNat_of_nonneg hu]; exact this

theorem freeN_length (ns : List Nd) (i : Int) : (freeN ns i).length = ns.length := by
  unfold freeN; simp only; split <;> simp
/-- What is where after a node was taken from its parent. -/
theorem nodeAt_freeN {ns : List Nd} (h : WF ns) (i x : Int) (i0 : 0 ≤ i) (i1 : i < (ns.length : Int)) (h0 : 0 ≤ x) (h1 : x < (ns.length : Int)) :
    nodeAt (freeN ns i) x = { nodeAt ns x with parent := if x = i ∧ 0 ≤ (nodeAt ns i).parent then -1 else (nodeAt ns x).parent, kids := if x = (nodeAt ns i).parent then (nodeAt ns x).kids.erase i else (nodeAt ns x).kids } := by
  unfold freeN
  simp only
  split
  · rename_i hp
    have e1 : ¬ (x = i ∧ 0 ≤ (nodeAt ns i).parent) := by omega
    have e2 : ¬ x = (nodeAt ns i).parent := by omega
    rw [if_neg e1, if_neg e2]
  · rename_i hp
    rw [nodeAt_setParent _ _ _ i0 _ h0 (by simpa using h1), nodeAt_setKids _ _ _ (by omega) _ h0 h1, cutAt_erase]
    generalize (nodeAt ns i).parent = q at *
    have hq : 0 ≤ q := by omega
    by_cases e1 : x = i <;> by_cases e2 : x = q
    · subst e1; subst e2; simp [hq]
    · subst e1; simp [hq, e2]
    · subst e2; simp [e1]
    · simp [e1, e2]

theorem WF.free {ns : List Nd} (h : WF ns) (i : Int) (i0 : 0 ≤ i) (i1 : i < (ns.length : Int)) : WF (freeN ns i) := by
  have hn := h.n
  have hlen := freeN_length ns i
  have hat : ∀ x, 0 ≤ x → x < (ns.length : Int) → _ := fun x h0 h1 => nodeAt_freeN h i x i0 i1 h0 h1
  have hpar := hn.parent i i0 i1
  refine WFn.wf ⟨fun p p0 p1 x hx => ?_, fun p p0 p1 => ?_, fun j j0 j1 => ?_, fun j j0 j1 h6 => ?_, ?_⟩
  · rw [hlen] at p1 ⊢
    rw [hat p p0 p1] at hx
    simp only at hx
    by_cases e : p = (nodeAt ns i).parent
    · rw [if_pos e] at hx
      have hx' := (List.Nodup.mem_erase_iff (hn.nodup p p0 p1)).1 hx
      obtain ⟨h0, h1, h2⟩ := hn.kid p p0 p1 x hx'.2
      refine ⟨h0, h1, ?_⟩
      rw [hat x h0 h1]
      simp only
      rw [if_neg (fun e => hx'.1 e.1)]; exact h2
    · rw [if_neg e] at hx
      obtain ⟨h0, h1, h2⟩ := hn.kid p p0 p1 x hx
      refine ⟨h0, h1, ?_⟩
      rw [hat x h0 h1]
      simp only
      rw [if_neg (fun e2 => e (by rw [← h2, e2.1]))]; exact h2
  · rw [hlen] at p1
    rw [hat p p0 p1]
    simp only
    split
    · exact (hn.nodup p p0 p1).erase _
    · exact hn.nodup p p0 p1
  · rw [hlen] at j1 ⊢
    rw [hat j j0 j1]
    simp only
    by_cases e : j = i ∧ 0 ≤ (nodeAt ns i).parent
    · rw [if_pos e]; left; omega
    · rw [if_neg e]
      rcases hn.parent j j0 j1 with h2 | ⟨h2, h3⟩
      · exact .inl h2
      · by_cases h4 : (nodeAt ns j).parent < 0
        · exact .inl h4
        · refine .inr ⟨h2, ?_⟩
          rw [hat _ (by omega) h2]
          simp only
          split
          · rename_i e5
            refine (List.Nodup.mem_erase_iff (hn.nodup _ (by omega) h2)).2 ⟨fun e6 => e ⟨e6, by omega⟩, h3⟩
          · exact h3
  · rw [hlen] at j1
    rw [hat j j0 j1] at h6 ⊢
    simp only at h6 ⊢
    obtain ⟨h2, h3⟩ := hn.content j j0 j1 h6
    refine ⟨h2, ?_⟩
    split
    · omega
    · exact h3
  · obtain ⟨r, hr⟩ := hn.rank
    refine ⟨r, fun j j0 j1 hu => ?_⟩
    rw [hlen] at j1
    have e : 0 ≤ upN (freeN ns i) j → upN (freeN ns i) j = upN ns j := by
      unfold upN
      rw [hat j j0 j1]
      simp only
      split
      · intro _; rfl
      · intro h2
        split at h2
        · omega
        · rename_i e3; rw [if_neg e3]
    have e2 := e hu
    rw [e2] at hu ⊢
    exact hr j j0 j1 hu

theorem hangN_length (ns : List Nd) (p ref i : Int) : (hangN ns p ref i).length = ns.length := by
  unfold hangN; simp [freeN_length]
/-- The kids behind 'hang'. -/
def hangKids (kids : List Int) (ref i : Int) : List Int := if ref < 0 then kids ++ [i] else putAt kids (kids.idxOf ref) i
theorem mem_hangKids (kids : List Int) (ref i x : Int) : x ∈ hangKids kids ref i ↔ x = i ∨ x ∈ kids := by
  unfold hangKids
  split
  · simp [or_comm]
  · unfold putAt
    have : x ∈ kids ↔ x ∈ kids.take (kids.idxOf ref) ∨ x ∈ kids.drop (kids.idxOf ref) := by rw [← List.mem_append, List.take_append_drop]
    rw [this]
    simp only [List.mem_append, List.mem_cons]
    exact ⟨fun h => by rcases h with h | h | h; exact .inr (.inl h); exact .inl h; exact .inr (.inr h), fun h => by rcases h with h | h | h; exact .inr (.inl h); exact .inl h; exact .inr (.inr h)⟩
theorem nodup_hangKids (kids : List Int) (ref i : Int) (h : kids.Nodup) (hi : i ∉ kids) : (hangKids kids ref i).Nodup := by
  have hp : (hangKids kids ref i).Perm (i :: kids) := by
    unfold hangKids
    split
    · exact List.perm_append_comm
    · unfold putAt
      have := List.perm_middle (a := i) (l₁ := kids.take (kids.idxOf ref)) (l₂ := kids.drop (kids.idxOf ref))
      rwa [List.take_append_drop] at this
  exact hp.nodup_iff.2 (List.nodup_cons.2 ⟨hi, h⟩)

theorem nodeAt_hangN {ns : List Nd} (h : WF ns) (p ref i x : Int) (p0 : 0 ≤ p) (p1 : p < (ns.length : Int)) (i0 : 0 ≤ i) (i1 : i < (ns.length : Int)) (hpi : p ≠ i) (h0 : 0 ≤ x) (h1 : x < (ns.length : Int)) :
    nodeAt (hangN ns p ref i) x = { nodeAt (freeN ns i) x with parent := if x = i then p else (nodeAt (freeN ns i) x).parent, kids := if x = p then hangKids (nodeAt (freeN ns i) x).kids ref i else (nodeAt (freeN ns i) x).kids } := by
  unfold hangN
  simp only
  rw [nodeAt_setParent _ _ _ i0 _ h0 (by simpa [freeN_length] using h1), nodeAt_setKids _ _ _ p0 _ h0 (by simpa [freeN_length] using h1)]
  by_cases e1 : x = i <;> by_cases e2 : x = p
  · omega
  · subst e1; simp [e2]
  · subst e2; simp only [e1, if_false, if_true]; rfl
  · simp [e1, e2]

theorem WF.hang {ns : List Nd} (h : WF ns) (p ref i : Int) (p0 : 0 ≤ p) (p1 : p < (ns.length : Int)) (i0 : 0 ≤ i) (i1 : i < (ns.length : Int)) (hk : (nodeAt ns i).kind ≠ 6) (hab : aboveN ns i p = false) : WF (hangN ns p ref i) := by
  have hpi : p ≠ i := by
    rintro rfl
    rw [aboveN_step h _ _ p1, if_neg (by omega)] at hab
    simp at hab
  have hw1 := h.free i i0 i1
  have hn := hw1.n
  have hlen := hangN_length ns p ref i
  have hl1 := freeN_length ns i
  have hat : ∀ x, 0 ≤ x → x < (ns.length : Int) → _ := fun x h0 h1 => nodeAt_hangN h p ref i x p0 p1 i0 i1 hpi h0 h1
  have hfi : (nodeAt (freeN ns i) i).parent < 0 := by
    rw [nodeAt_freeN h i i i0 i1 i0 i1]
    simp only
    split
    · omega
    · rename_i e; exact Int.not_le.1 (fun e2 => e ⟨trivial, e2⟩)
  have hnot : ∀ q, 0 ≤ q → q < (ns.length : Int) → i ∉ (nodeAt (freeN ns i) q).kids := fun q q0 q1 hm => by
    have := (hn.kid q q0 (by omega) i hm).2.2; omega
  refine WFn.wf ⟨fun q q0 q1 x hx => ?_, fun q q0 q1 => ?_, fun j j0 j1 => ?_, fun j j0 j1 h6 => ?_, ?_⟩
  · rw [hlen] at q1 ⊢
    rw [hat q q0 q1] at hx
    simp only at hx
    by_cases e : q = p
    · rw [if_pos e] at hx
      rcases (mem_hangKids _ _ _ _).1 hx with rfl | hx
      · refine ⟨i0, i1, ?_⟩
        rw [hat _ i0 i1]; simp only [if_true]; exact e.symm
      · obtain ⟨h0, h1, h2⟩ := hn.kid q q0 (by omega) x hx
        refine ⟨h0, by omega, ?_⟩
        rw [hat x h0 (by omega)]; simp only
        have hxi : x ≠ i := by rintro rfl; exact hnot q q0 q1 hx
        rw [if_neg hxi]; exact h2
    · rw [if_neg e] at hx
      obtain ⟨h0, h1, h2⟩ := hn.kid q q0 (by omega) x hx
      refine ⟨h0, by omega, ?_⟩
      rw [hat x h0 (by omega)]; simp only
      have hxi : x ≠ i := by rintro rfl; exact hnot q q0 q1 hx
      rw [if_neg hxi]; exact h2
  · rw [hlen] at q1
    rw [hat q q0 q1]; simp only
    split
    · exact nodup_hangKids _ _ _ (hn.nodup q q0 (by omega)) (hnot q q0 q1)
    · exact hn.nodup q q0 (by omega)
  · rw [hlen] at j1 ⊢
    rw [hat j j0 j1]; simp only
    by_cases e : j = i
    · rw [if_pos e]
      refine .inr ⟨p1, ?_⟩
      rw [hat p p0 p1]; simp only [if_true]; rw [e]
      exact (mem_hangKids _ _ _ _).2 (.inl rfl)
    · rw [if_neg e]
      rcases hn.parent j j0 (by omega) with h2 | ⟨h2, h3⟩
      · exact .inl h2
      · by_cases h4 : (nodeAt (freeN ns i) j).parent < 0
        · exact .inl h4
        · refine .inr ⟨by omega, ?_⟩
          rw [hat _ (by omega) (by omega)]; simp only
          split
          · exact (mem_hangKids _ _ _ _).2 (.inr h3)
          · exact h3
  · rw [hlen] at j1
    rw [hat j j0 j1] at h6 ⊢
    simp only at h6 ⊢
    have e : j ≠ i := by
      rintro rfl
      rw [nodeAt_freeN h j j i0 i1 i0 i1] at h6
      exact hk h6
    rw [if_neg e]
    exact hn.content j j0 (by omega) h6
  · obtain ⟨r, hr⟩ := h.n.rank
    refine ⟨fun x => if aboveN ns i x = true then r x + (r p + 1) else r x, fun j j0 j1 hu => ?_⟩
    rw [hlen] at j1
    dsimp only
    by_cases e : j = i
    · subst e
      have hup : upN (hangN ns p ref j) j = p := by
        unfold upN
        rw [hat j j0 j1]; simp only
        rw [if_pos trivial, nodeAt_freeN h j j i0 i1 i0 i1]
        simp only
        rw [if_neg (by simpa using hk)]
      rw [hup, hab, if_neg (by simp)]
      have : aboveN ns j j = true := by rw [aboveN_step h _ _ j1, if_neg (by omega)]; simp
      rw [if_pos this]; omega
    · have hup : 0 ≤ upN (hangN ns p ref i) j → upN (hangN ns p ref i) j = upN ns j := by
        unfold upN
        rw [hat j j0 j1]; simp only
        rw [if_neg e, nodeAt_freeN h i j i0 i1 j0 j1]
        simp only
        rw [if_neg (show ¬ (j = i ∧ 0 ≤ (nodeAt ns i).parent) from fun e2 => e e2.1)]
        intro _; rfl
      have e3 := hup hu
      rw [e3] at hu ⊢
      have hst := aboveN_step h i j j1
      rw [if_neg (by omega), if_neg (by simpa using e)] at hst
      rw [hst]
      have := hr j j0 j1 hu
      split <;> omega
end Go.Proofs.YtgaebaokcjhcdaaGreatDoor

/- The arena: a node is taken from its parent. -/
set_option linter.unusedVariables false
set_option linter.unusedSimpArgs false
namespace Go.Proofs.YtgaebaokcjhcdaaGreatDoor
open Go.RowKit Lz

theorem grow_set {F : Nat → Prop} {w w2 : World} {p : Addr} {u : Value} : grow F w (w2.setCell p u) = grow F w w2 := by funext k; simp [grow]
theorem AppR.mut2 {w W w2 : World} {F : Nat → Prop} {old : Option Nat} {e size n m : Nat} {pre : Nat → Option Value} {news : List Value} {g' cap' : Nat} {cur' : Array Value} (hb : Bel w W) (h : AppR W w2 old e size n m pre news g' cap' cur') (hF : ∀ k, old = some k → F k) : Mut F w w2 :=
  ⟨h.os.trans hb.os, h.tape.trans hb.tape, h.output.trans hb.output, Nat.le_trans hb.size h.size, fun k hk hn => (h.block k (Nat.lt_of_lt_of_le hk hb.size) (fun e => hn (hF k e))).trans (hb.block k hk)⟩
theorem arena_freed {w W w2 : World} {F : Nat → Prop} {a g cap : Nat} {cur : Array Value} {va vk : Nat → Value} {ns : List Nd} {i p : Int} {ks : List Int} {gk capk k g' cap' : Nat} {curk cur' : Array Value}
    (hv : ArenaV w F a g cap cur va vk ns) (i0 : 0 ≤ i) (i1 : i < (ns.length : Int)) (p0 : 0 ≤ p) (p1 : p < (ns.length : Int)) (epp : (nodeAt ns i).parent = p) (eks : (nodeAt ns p).kids = ks) (ekk : ks.idxOf i = k) (hk : k < ks.length)
    (evk : vk p.toNat = .slice (some ⟨gk, 0, none⟩) ks.length capk) (hFk : F gk) (hbk : w.heap[gk]? = some (.cells curk 3 (0, 0))) (r4 : ∀ i, i < ks.length → curk[i]? = some (.int .i64 (ks.getD i 0))) (hb : Bel w W)
    (hA : AppR W w2 (some gk) 3 1 k (ks.length - (k + 1)) (fun j => curk[j]?) ((ks.drop (k + 1)).map (fun x => Value.int .i64 x)) g' cap' cur') :
    Mut F w ((w2.setCell ⟨g, p.toNat * 11 + 8, none⟩ (.slice (some ⟨g', 0, none⟩) (k + (ks.length - (k + 1))) cap')).setCell ⟨g, i.toNat * 11 + 6, none⟩ (.int .i64 (-1))) ∧
      ArenaRep ((w2.setCell ⟨g, p.toNat * 11 + 8, none⟩ (.slice (some ⟨g', 0, none⟩) (k + (ks.length - (k + 1))) cap')).setCell ⟨g, i.toNat * 11 + 6, none⟩ (.int .i64 (-1)))
        (grow F w ((w2.setCell ⟨g, p.toNat * 11 + 8, none⟩ (.slice (some ⟨g', 0, none⟩) (k + (ks.length - (k + 1))) cap')).setCell ⟨g, i.toNat * 11 + 6, none⟩ (.int .i64 (-1)))) a (freeN ns i) := by
  have hob : (vk p.toNat).ownBlock = some gk := by rw [evk]; rfl
  refine ⟨((hA.mut2 hb (fun k e => by cases e; exact hFk)).setCell (.inl hv.Fg) _).setCell (.inl hv.Fg) _, ?_⟩
  rw [grow_set, grow_set]
  have h1 := hv.toArenaP.kidsApp p p0 p1 hb (fun k e => ⟨curk, by rw [hob] at e; cases e; exact hbk⟩) (by rw [hob]; exact hA) (cutAt ks k) (by simp [cutAt]; omega) (by simp)
    (fun j hj => by
      rw [r4 j (by omega)]
      unfold cutAt
      simp only [List.getD_eq_getElem?_getD]
      rw [List.getElem?_append_left (by simp; omega), List.getElem?_take_of_lt hj])
    (fun j hj => by
      unfold cutAt
      simp only [List.getD_eq_getElem?_getD]
      rw [List.getElem?_append_right (by simp; omega)]
      simp only [List.length_take, List.getElem?_map, List.getElem?_drop]
      rw [show k + 1 + (k + j - min k ks.length) = k + 1 + j by omega, List.getElem?_eq_getElem (by omega)]
      rfl)
  have h2 := h1.setParent i (-1) i0 (by simpa using i1)
  have e : freeN ns i = Lz.setParent (setKids ns p (cutAt ks k)) i (-1) := by
    unfold freeN
    rw [epp, if_neg (by omega), eks, ekk]
  have hw := hv.wf.free i i0 i1
  rw [e] at hw ⊢
  exact ⟨_, _, _, _, _, { h2 with wf := hw }⟩

set_option maxHeartbeats 2000000 in
set_option maxRecDepth 100000 in
theorem aFree_c (w : World) (F : Nat → Prop) (a : Nat) (ns : List Nd) (i : Int) (h : ArenaRep w F a ns) (i0 : 0 ≤ i) (i1 : i < (ns.length : Int)) :
    Calls Tryz.prog 169 #[.pointer (some ⟨a, 0, none⟩), .int .i64 i] w fun e w' => e = .returned (.tuple #[]) ∧ Mut F w w' ∧ ArenaRep w' (grow F w w') a (freeN ns i) := by
  obtain ⟨i0', hi, hz0, hz1, hz2⟩ := info_parts Tryz.infoInt
  obtain ⟨g, cap, cur, va, vk, hv⟩ := h
  have hs := hv.small
  have hh := hv.head
  have hpi := hv.parentc i i0 i1
  have hn := hv.wf.n
  have hpar := hn.parent i i0 i1
  by_cases hp0 : (nodeAt ns i).parent < 0
  · have hfree : freeN ns i = ns := by unfold freeN; simp [hp0]
    have HF := Lib.hid hfree
    have HV := Lib.hid hv
    clear hfree hv hn hpar
    generalize (nodeAt ns i).parent = p at *
    go_enter Tryz.func169, Tryz.ntmps169
    go_wp2
    refine bodyPost_ret (results_none rfl _ _ _) rfl ?_
    exact ⟨rfl, Mut.refl _ _, by rw [HF.out]; exact ⟨g, cap, cur, va, vk, HV.out.keep (fun _ _ => rfl) (fun _ h => .inl h) (fun k hk => HV.out.lt k (grow_self hk))⟩⟩
  · obtain ⟨p1, hmem⟩ := hpar.resolve_left hp0
    have p0 : 0 ≤ (nodeAt ns i).parent := by omega
    have hkp := hv.kidsc _ p0 p1
    have hrow := hv.kids (nodeAt ns i).parent.toNat (by omega)
    have hkl := Nat.le_trans (kids_le hv.wf (nodeAt ns i).parent.toNat (by omega)) hs
    rw [← nodeAt_nat _ _ p0] at hrow hkl
    have hlt := List.idxOf_lt_length_of_mem hmem
    have hix : idxI (nodeAt ns (nodeAt ns i).parent).kids i = ((nodeAt ns (nodeAt ns i).parent).kids.idxOf i : Int) := by unfold idxI; rw [if_pos hmem]
    rcases hrow with ⟨_, e⟩ | ⟨gk, capk, curk, evk, hFk, hbk, r1, r2, r3, r4⟩
    · rw [e] at hmem; simp at hmem
    have hIdx := fun W (hW : W.heap = w.heap) => idxInt_c W F (vk (nodeAt ns i).parent.toNat) (nodeAt ns (nodeAt ns i).parent).kids i (.inr ⟨gk, capk, curk, evk, hFk, by rw [hW]; exact hbk, r1, r2, r3, r4⟩) hkl
    rw [evk] at hkp hIdx
    have HV := Lib.hid hv
    have HR4 := Lib.hid r4
    have HIX := Lib.hid hix
    clear hv hn hpar r4 hix
    generalize hKS : (nodeAt ns (nodeAt ns i).parent).kids = ks at *
    generalize hPP : (nodeAt ns i).parent = p at *
    generalize hKK : ks.idxOf i = k at *
    have HKS := Lib.hid hKS; have HPP := Lib.hid hPP; have HKK := Lib.hid hKK; clear hKS hPP hKK
    have HH := Lib.hid hIdx; clear hIdx
    have hkc : k ≤ capk := by omega
    have hkc2 : k + 1 ≤ ks.length := hlt
    have wk : IntKind.i64.wrap ((k : Int) + 1) = (k : Int) + 1 := IntWalk.i64_in _ (by omega)
    have tk : ((k : Int) + 1).toNat = k + 1 := by omega
    have pk : (0 : Int) ≤ (k : Int) + 1 := by omega
    have qk : (k : Int) + 1 ≤ (ks.length : Int) := by omega
    have r0 : w.drew.heap[gk]? = some (.cells curk 3 (0, 0)) := hbk
    have rk2 : k ≤ maxLen := by omega
    have rk3 : k * 1 ≤ curk.size := by omega
    have rn1 : (((ks.drop (k + 1)).map (fun x => Value.int .i64 x))).length = (ks.length - (k + 1)) * 1 := by simp
    have rn2 : ∀ j u, (((ks.drop (k + 1)).map (fun x => Value.int .i64 x)))[j]? = some u → w.drew.cell? ((⟨gk, k + 1, none⟩ : Addr).add j) = some u := by
      intro j u hj
      have e : (⟨gk, k + 1, none⟩ : Addr).add j = ⟨gk, k + 1 + j, none⟩ := by unfold Addr.add; split <;> simp_all
      rw [e, blk_cell r0]
      have hjl : j < ks.length - (k + 1) := by have := (List.getElem?_eq_some_iff.1 hj).1; simpa using this
      rw [HR4.out _ (by omega)]
      rw [List.getElem?_map, List.getElem?_drop, List.getElem?_eq_getElem (by omega)] at hj
      rw [← hj, List.getD_eq_getElem?_getD, List.getElem?_eq_getElem (by omega)]
      rfl
    have rn3 : ∀ u ∈ (((ks.drop (k + 1)).map (fun x => Value.int .i64 x))), u.oneCell' = true := by
      intro u hu
      obtain ⟨x, _, rfl⟩ := List.mem_map.1 hu
      rfl
    have rn4 : k + (ks.length - (k + 1)) ≤ maxLen := by unfold maxLen; omega
    have rn5 : (k + (ks.length - (k + 1))) * 8 ≤ 140737488355328 := by omega
    have hCell : ∀ w2 n m pre news g' cap' cur', AppR w.drew w2 (some gk) 3 1 n m pre news g' cap' cur' → w2.cell? ⟨a, 0, none⟩ = some (.slice (some ⟨g, 0, none⟩) ns.length cap) ∧ (∀ j, w2.frozen? ⟨g, j, none⟩ = false) ∧ w2.cell? ⟨g, p.toNat * 11 + 8, none⟩ = some (.slice (some ⟨gk, 0, none⟩) ks.length capk) ∧ w2.cell? ⟨g, i.toNat * 11 + 6, none⟩ = some (.int .i64 p) := by
      intro w2 n m pre news g' cap' cur' hApp
      have e1 : w2.heap[a]? = w.heap[a]? := hApp.block a (HV.out.lt a HV.out.Fa) (by intro e; cases e; exact blk_ne hbk HV.out.blk (by decide) rfl)
      have e2 : w2.heap[g]? = w.heap[g]? := hApp.block g (HV.out.lt g HV.out.Fg) (by intro e; cases e; exact blk_ne hbk HV.out.row (by decide) rfl)
      exact ⟨(World.cell?_of_block (a := ⟨a, 0, none⟩) e1).trans HV.out.head, fun j => blk_frozen (e2.trans HV.out.row) j, (World.cell?_of_block (a := ⟨g, p.toNat * 11 + 8, none⟩) e2).trans hkp, (World.cell?_of_block (a := ⟨g, i.toNat * 11 + 6, none⟩) e2).trans hpi⟩
    have hag : a ≠ g := HV.out.ag
    have hne : i.toNat * 11 + 6 ≠ p.toNat * 11 + 8 := by omega
    by_cases hc : capk = k + 1
    · subst hc
      have hle : (k : Int) ≤ (k : Int) + 1 := by omega
      have e0 : ks.length - (k + 1) = 0 := by omega
      have e1 : ks.drop (k + 1) = [] := by apply List.drop_eq_nil_of_le; omega
      have rz2 : ∀ j u, ([] : List Value)[j]? = some u → w.drew.cell? ((⟨gk, 0, none⟩ : Addr).add j) = some u := by intro j u hj; simp at hj
      have rz3 : ∀ u ∈ ([] : List Value), u.oneCell' = true := by simp
      have rz4 : k + 0 ≤ maxLen := rk2
      have rz5 : (k + 0) * 8 ≤ 140737488355328 := by omega
      go_enter Tryz.func169, Tryz.ntmps169
      go_wp2_with (go_at_call 123; refine (HH.out _ rfl).mono ?_; rintro e w' ⟨rfl, rfl⟩; rw [HIX.out])
      go_region_law (refine step_append_r rfl (.tmp 36) (.tmp 40) 29 rfl 3 i0' (.int .i64 0) 1 8 Tryz.underlying29 hi hz0 hz1 hz2 rfl (by decide) gk k k curk ?hs r0 rk2 rk3 (Nat.le_refl k) ⟨gk, 0, none⟩ 0 0 [] ?hx rfl rz2 rz3 rz4 rz5 ?_; (case hs => go_simp); (case hx => go_simp); intro g' cap' cur' w2 hApp; have fc := hCell w2 _ _ _ _ _ _ _ hApp; have fa := fc.1; have fb := fc.2.1; have fd := fc.2.2.1; have fe := fc.2.2.2; clear fc)
      all_goals (
        go_wp2
        go_end0
        have hfin := arena_freed HV.out i0 i1 p0 p1 HPP.out HKS.out HKK.out hkc2 evk hFk hbk HR4.out (bel_dr (Below.refl _ _)) (w2 := w2) (g' := g') (cap' := cap') (cur' := cur') (by rw [e0, e1]; exact hApp)
        rw [e0] at hfin
        exact ⟨rfl, hfin⟩)
    · go_enter Tryz.func169, Tryz.ntmps169
      go_wp2_with (go_at_call 123; refine (HH.out _ rfl).mono ?_; rintro e w' ⟨rfl, rfl⟩; rw [HIX.out])
      go_region_law (refine step_append_r rfl (.tmp 36) (.tmp 40) 29 rfl 3 i0' (.int .i64 0) 1 8 Tryz.underlying29 hi hz0 hz1 hz2 rfl (by decide) gk k k curk ?hs r0 rk2 rk3 (Nat.le_refl k) ⟨gk, k + 1, none⟩ (ks.length - (k + 1)) (capk - (k + 1)) (((ks.drop (k + 1)).map (fun x => Value.int .i64 x))) ?hx rn1 rn2 rn3 rn4 rn5 ?_; (case hs => go_simp); (case hx => go_simp); intro g' cap' cur' w2 hApp; have fc := hCell w2 _ _ _ _ _ _ _ hApp; have fa := fc.1; have fb := fc.2.1; have fd := fc.2.2.1; have fe := fc.2.2.2; clear fc)
      all_goals (
        go_wp2
        go_end0
        exact ⟨rfl, arena_freed HV.out i0 i1 p0 p1 HPP.out HKS.out HKK.out hkc2 evk hFk hbk HR4.out (bel_dr (Below.refl _ _)) hApp⟩)
end Go.Proofs.YtgaebaokcjhcdaaGreatDoor

/- The arena: a node is hung below another, as its last kid. -/
set_option linter.unusedVariables false
set_option linter.unusedSimpArgs false
namespace Go.Proofs.YtgaebaokcjhcdaaGreatDoor
open Go.RowKit Lz

theorem grow_trans {F : Nat → Prop} {w w1 w2 : World} (h1 : w.heap.size ≤ w1.heap.size) (h2 : w1.heap.size ≤ w2.heap.size) : grow (grow F w w1) w1 w2 = grow F w w2 := by
  funext k
  apply propext
  unfold grow
  constructor
  · rintro ((h | h) | h)
    · exact .inl h
    · exact .inr ⟨h.1, by omega⟩
    · exact .inr ⟨by omega, h.2⟩
  · rintro (h | h)
    · exact .inl (.inl h)
    · by_cases hk : k < w1.heap.size
      · exact .inl (.inr ⟨h.1, hk⟩)
      · exact .inr ⟨by omega, h.2⟩
theorem arena_hung {w W w2 : World} {F : Nat → Prop} {a g cap : Nat} {cur : Array Value} {va vk : Nat → Value} {ns : List Nd} {i p : Int} {ks : List Int} {g' cap' : Nat} {cur' : Array Value} {pre : Nat → Option Value}
    (hv : ArenaV w F a g cap cur va vk (freeN ns i)) (i0 : 0 ≤ i) (i1 : i < (ns.length : Int)) (p0 : 0 ≤ p) (p1 : p < (ns.length : Int)) (eks : (nodeAt (freeN ns i) p).kids = ks)
    {old : Option Nat} (eold : (vk p.toNat).ownBlock = old) (hold : ∀ k, old = some k → ∃ cs, w.heap[k]? = some (.cells cs 3 (0, 0))) (hpre : ∀ j, j < ks.length → pre j = some (.int .i64 (ks.getD j 0))) (hb : Bel w W)
    (hA : AppR W w2 old 3 1 ks.length 1 pre [.int .i64 i] g' cap' cur') (hw : WF (hangN ns p (-1) i)) :
    Mut F w ((w2.setCell ⟨g, p.toNat * 11 + 8, none⟩ (.slice (some ⟨g', 0, none⟩) (ks.length + 1) cap')).setCell ⟨g, i.toNat * 11 + 6, none⟩ (.int .i64 p)) ∧
      ArenaRep ((w2.setCell ⟨g, p.toNat * 11 + 8, none⟩ (.slice (some ⟨g', 0, none⟩) (ks.length + 1) cap')).setCell ⟨g, i.toNat * 11 + 6, none⟩ (.int .i64 p))
        (grow F w ((w2.setCell ⟨g, p.toNat * 11 + 8, none⟩ (.slice (some ⟨g', 0, none⟩) (ks.length + 1) cap')).setCell ⟨g, i.toNat * 11 + 6, none⟩ (.int .i64 p))) a (hangN ns p (-1) i) := by
  subst eold
  have hl := freeN_length ns i
  have hob : ∀ k, (vk p.toNat).ownBlock = some k → F k := by
    intro k e
    rcases hv.kids p.toNat (by omega) with ⟨e2, _⟩ | ⟨g3, c3, cur3, e2, hF3, _⟩
    · rw [e2] at e; simp [Value.ownBlock] at e
    · rw [e2] at e
      have : g3 = k := by simpa [Value.ownBlock] using e
      subst this; exact hF3
  refine ⟨((hA.mut2 hb hob).setCell (.inl hv.Fg) _).setCell (.inl hv.Fg) _, ?_⟩
  rw [grow_set, grow_set]
  have h1 := hv.toArenaP.kidsApp p p0 (by omega) hb hold hA (ks ++ [i]) (by simp) (by simp)
    (fun j hj => by
      rw [hpre j hj]
      simp only [List.getD_eq_getElem?_getD]
      rw [List.getElem?_append_left (by omega)])
    (fun j hj => by
      have : j = 0 := by omega
      subst this
      simp [List.getD_eq_getElem?_getD])
  have h2 := h1.setParent i p i0 (by simpa [hl] using i1)
  have e : hangN ns p (-1) i = Lz.setParent (setKids (freeN ns i) p (ks ++ [i])) i p := by
    unfold hangN
    simp only [eks]
    rw [if_pos (by omega)]
  rw [e] at hw ⊢
  exact ⟨_, _, _, _, _, { h2 with wf := hw }⟩
theorem arena_cells {w W w2 : World} {F : Nat → Prop} {a g cap : Nat} {cur : Array Value} {va vk : Nat → Value} {ns : List Nd} {old : Option Nat} {n m g' cap' : Nat} {pre : Nat → Option Value} {news : List Value} {cur' : Array Value}
    (hv : ArenaV w F a g cap cur va vk ns) (hb : Bel w W) (hA : AppR W w2 old 3 1 n m pre news g' cap' cur') (hold : ∀ k, old = some k → ∃ cs, w.heap[k]? = some (.cells cs 3 (0, 0))) :
    w2.heap[a]? = w.heap[a]? ∧ w2.heap[g]? = w.heap[g]? := by
  refine ⟨(hA.block a (Nat.lt_of_lt_of_le (hv.lt a hv.Fa) hb.size) (fun e => ?_)).trans (hb.block a (hv.lt a hv.Fa)), (hA.block g (Nat.lt_of_lt_of_le (hv.lt g hv.Fg) hb.size) (fun e => ?_)).trans (hb.block g (hv.lt g hv.Fg))⟩
  · obtain ⟨cs, h⟩ := hold a e
    exact blk_ne h hv.blk (by decide) rfl
  · obtain ⟨cs, h⟩ := hold g e
    exact blk_ne h hv.row (by decide) rfl

set_option maxHeartbeats 2000000 in
set_option maxRecDepth 100000 in
theorem aHang_c (w : World) (F : Nat → Prop) (a : Nat) (ns : List Nd) (p i : Int) (h : ArenaRep w F a ns) (p0 : 0 ≤ p) (p1 : p < (ns.length : Int)) (i0 : 0 ≤ i) (i1 : i < (ns.length : Int)) (hk : (nodeAt ns i).kind ≠ 6) (hab : aboveN ns i p = false) :
    Calls Tryz.prog 124 #[.pointer (some ⟨a, 0, none⟩), .int .i64 p, .int .i64 (-1), .int .i64 i] w fun e w' => e = .returned (.tuple #[]) ∧ Mut F w w' ∧ ArenaRep w' (grow F w w') a (hangN ns p (-1) i) := by
  obtain ⟨z0, hi, hz0, hz1, hz2⟩ := info_parts Tryz.infoInt
  have hwf : WF ns := by obtain ⟨_, _, _, _, _, h⟩ := h; exact h.wf
  have hw := hwf.hang p (-1) i p0 p1 i0 i1 hk hab
  have hFree := aFree_c w F a ns i h i0 i1
  have hl := freeN_length ns i
  have HH := Lib.hid hFree; have HW := Lib.hid hw; have HL := Lib.hid hl
  clear hFree hw hk hab hwf h
  go_enter Tryz.func124, Tryz.ntmps124
  go_wp2_with (
    go_at_call 169
    refine (HH.out).mono ?_
    rintro e w1 ⟨rfl, hm, g, cap, cur, va, vk, hv⟩
    have hs := hv.small
    have hh := hv.head
    have hag := hv.ag
    have hp0 : p < ((freeN ns i).length : Int) := by omega
    have hi0 : i < ((freeN ns i).length : Int) := by omega
    have hkp := hv.kidsc p p0 hp0
    have hpi := hv.parentc i i0 hi0
    have hrow := hv.kids p.toNat (by omega)
    rw [← nodeAt_nat _ _ p0] at hrow
    have hkl := Nat.le_trans (kids_le hv.wf p.toNat (by omega)) hs
    rw [← nodeAt_nat _ _ p0] at hkl
    have HV := Lib.hid hv
    clear hv HH)
  have hal : a < w1.heap.size := HV.out.lt a HV.out.Fa
  have hgl : g < w1.heap.size := HV.out.lt g HV.out.Fg
  have hne : i.toNat * 11 + 6 ≠ p.toNat * 11 + 8 := by omega
  have rn3 : ∀ u ∈ ([.int .i64 i] : List Value), u.oneCell' = true := by simp [Value.oneCell']
  rcases hrow with ⟨evk, ekk⟩ | ⟨gk, capk, curk, evk, hFk, hbk, r1, r2, r3, r4⟩
  · have hold : ∀ k, (none : Option Nat) = some k → ∃ cs, w1.heap[k]? = some (.cells cs 3 (0, 0)) := by intro k e; cases e
    have rm : 1 ≤ maxLen := by unfold maxLen; omega
    have rp : ∀ j, j < ([] : List Int).length → (none : Option Value) = some (.int .i64 (([] : List Int).getD j 0)) := by intro j hj; simp at hj
    rw [evk] at hkp ⊢
    go_region_law (first
      | (refine step_append_rnil rfl (.tmp 28) (.tmp 30) 29 rfl 3 z0 (.int .i64 0) 1 8 Tryz.underlying29 hi hz0 hz1 hz2 rfl (by decide) rfl ⟨w1.heap.size, 0, none⟩ 1 1 [.int .i64 i] rfl rfl (World.news_of_block (heap_alloc_new w1.drew _)) rn3 (by decide) rm (by decide) ?_; intro g' cap' cur' w2 hApp
         have hcl := arena_cells HV.out (bel_al (bel_dr (Below.refl _ _))) hApp hold
         have fa := (World.cell?_of_block (a := ⟨a, 0, none⟩) hcl.1).trans hh
         have fp := (World.cell?_of_block (a := ⟨g, p.toNat * 11 + 8, none⟩) hcl.2).trans hkp
         have fi := (World.cell?_of_block (a := ⟨g, i.toNat * 11 + 6, none⟩) hcl.2).trans hpi
         have fr := fun j => (World.frozen?_of_block (a := ⟨g, j, none⟩) hcl.2).trans (HV.out.rowf j)
         clear hcl))
    all_goals (
      go_wp2
      go_end0
      have hfin := arena_hung HV.out i0 i1 p0 p1 ekk (by rw [evk]; rfl) hold rp (bel_al (bel_dr (Below.refl _ _))) hApp HW.out
      refine ⟨rfl, hm.trans hfin.1, ?_⟩
      have hsz := hfin.1.size
      rw [grow_trans hm.size hsz] at hfin
      exact hfin.2)
  · have hold : ∀ k, some gk = some k → ∃ cs, w1.heap[k]? = some (.cells cs 3 (0, 0)) := by intro k e; cases e; exact ⟨curk, hbk⟩
    have r0 : ∀ o, (w1.drew.alloc o).heap[gk]? = some (.cells curk 3 (0, 0)) := fun o => (Below.heap_alloc _ _ _ (HV.out.lt gk hFk)).trans hbk
    have rk3 : capk * 1 ≤ curk.size := by omega
    have rn4 : (nodeAt (freeN ns i) p).kids.length + 1 ≤ maxLen := by unfold maxLen; omega
    have rn5 : ((nodeAt (freeN ns i) p).kids.length + 1) * 8 ≤ 140737488355328 := by omega
    rw [evk] at hkp ⊢
    go_region_law (first
      | (refine step_append_r rfl (.tmp 28) (.tmp 30) 29 rfl 3 z0 (.int .i64 0) 1 8 Tryz.underlying29 hi hz0 hz1 hz2 rfl (by decide) gk (nodeAt (freeN ns i) p).kids.length capk curk rfl (r0 _) r2 rk3 r1 ⟨w1.heap.size, 0, none⟩ 1 1 [.int .i64 i] rfl rfl (World.news_of_block (heap_alloc_new w1.drew _)) rn3 rn4 rn5 ?_; intro g' cap' cur' w2 hApp
         have hcl := arena_cells HV.out (bel_al (bel_dr (Below.refl _ _))) hApp hold
         have fa := (World.cell?_of_block (a := ⟨a, 0, none⟩) hcl.1).trans hh
         have fp := (World.cell?_of_block (a := ⟨g, p.toNat * 11 + 8, none⟩) hcl.2).trans hkp
         have fi := (World.cell?_of_block (a := ⟨g, i.toNat * 11 + 6, none⟩) hcl.2).trans hpi
         have fr := fun j => (World.frozen?_of_block (a := ⟨g, j, none⟩) hcl.2).trans (HV.out.rowf j)
         clear hcl))
    all_goals (
      go_wp2
      go_end0
      have hfin := arena_hung HV.out i0 i1 p0 p1 rfl (by rw [evk]; rfl) hold r4 (bel_al (bel_dr (Below.refl _ _))) hApp HW.out
      refine ⟨rfl, hm.trans hfin.1, ?_⟩
      have hsz := hfin.1.size
      rw [grow_trans hm.size hsz] at hfin
      exact hfin.2)
end Go.Proofs.YtgaebaokcjhcdaaGreatDoor

/- The arena: Append. -/
set_option linter.unusedVariables false
set_option linter.unusedSimpArgs false
namespace Go.Proofs.YtgaebaokcjhcdaaGreatDoor
open Go.RowKit Lz

theorem holdsN_has {ns : List Nd} {i : Int} (h : holdsN ns i = true) : 0 ≤ i ∧ i < (ns.length : Int) := (hasN_iff _ _).1 (by unfold holdsN at h; simp at h; exact h.1)
theorem hangsN_has {ns : List Nd} {i : Int} (h : hangsN ns i = true) : 0 ≤ i ∧ i < (ns.length : Int) := (hasN_iff _ _).1 (by unfold hangsN at h; simp at h; exact h.1)
theorem hangsN_kind {ns : List Nd} {i : Int} (h : hangsN ns i = true) : (nodeAt ns i).kind ≠ 6 := by
  intro e
  simp [hangsN, e, kidKind] at h
theorem ArenaRep.refl {w : World} {F : Nat → Prop} {a : Nat} {ns : List Nd} (h : ArenaRep w F a ns) : ArenaRep w (grow F w w) a ns := h.keep (fun _ _ => rfl) (fun _ h => .inl h) (fun k hk => h.lt k (grow_self hk))

set_option maxHeartbeats 2000000 in
set_option maxRecDepth 100000 in
theorem aAppend_c (w : World) (F : Nat → Prop) (a : Nat) (ns : List Nd) (p i : Int) (h : ArenaRep w F a ns) :
    Calls Tryz.prog 61 #[.pointer (some ⟨a, 0, none⟩), .int .i64 p, .int .i64 i] w fun e w' => e = .returned (.int .i64 (appendE ns p i)) ∧ Mut F w w' ∧ ArenaRep w' (grow F w w') a (appendN ns p i) := by
  cases hp : holdsN ns p
  · have hfin : appendE ns p i = 2 ∧ appendN ns p i = ns := by simp [appendN, appendE, hp]
    rw [hfin.1, hfin.2]
    have HP := Lib.hid hp; clear hp hfin
    go_enter Tryz.func61, Tryz.ntmps61
    go_wp2_with (first | (go_at_call 121; refine (aNone_c h).mono ?_; rintro e w' ⟨rfl, rfl⟩) | (go_at_call 122; refine (aHolds_c h p).mono ?_; rintro e w' ⟨rfl, rfl⟩; rw [HP.out]))
    go_ret
    exact ⟨rfl, Mut.refl _ _, h.refl⟩
  · obtain ⟨p0, p1⟩ := holdsN_has hp
    cases hi : hangsN ns i
    · have hfin : appendE ns p i = 2 ∧ appendN ns p i = ns := by simp [appendN, appendE, hi]
      rw [hfin.1, hfin.2]
      have HP := Lib.hid hp; have HI := Lib.hid hi; clear hp hi hfin
      go_enter Tryz.func61, Tryz.ntmps61
      go_wp2_with (first | (go_at_call 121; refine (aNone_c h).mono ?_; rintro e w' ⟨rfl, rfl⟩) | (go_at_call 122; refine (aHolds_c h p).mono ?_; rintro e w' ⟨rfl, rfl⟩; rw [HP.out]) | (go_at_call 128; refine (aHangs_c h i).mono ?_; rintro e w' ⟨rfl, rfl⟩; rw [HI.out]))
      go_ret
      exact ⟨rfl, Mut.refl _ _, h.refl⟩
    · obtain ⟨i0, i1⟩ := hangsN_has hi
      have hk := hangsN_kind hi
      cases hab : aboveN ns i p
      · have hfin : appendE ns p i = 0 ∧ appendN ns p i = hangN ns p (-1) i := by simp [appendN, appendE, hp, hi, hab]
        rw [hfin.1, hfin.2]
        have HH := Lib.hid (aHang_c w F a ns p i h p0 p1 i0 i1 hk hab)
        have HP := Lib.hid hp; have HI := Lib.hid hi; have HA := Lib.hid hab; clear hp hi hfin hab hk
        go_enter Tryz.func61, Tryz.ntmps61
        go_wp2_with (first | (go_at_call 121; refine (aNone_c h).mono ?_; rintro e w' ⟨rfl, rfl⟩) | (go_at_call 122; refine (aHolds_c h p).mono ?_; rintro e w' ⟨rfl, rfl⟩; rw [HP.out]) | (go_at_call 128; refine (aHangs_c h i).mono ?_; rintro e w' ⟨rfl, rfl⟩; rw [HI.out]) | (go_at_call 129; refine (aAbove_c h i p p1).mono ?_; rintro e w' ⟨rfl, rfl⟩; rw [HA.out]) | (go_at_call 124; refine HH.out.mono ?_; rintro e w' ⟨rfl, hm, hr⟩))
        go_ret
        exact ⟨rfl, hm, hr⟩
      · have hfin : appendE ns p i = 2 ∧ appendN ns p i = ns := by simp [appendN, appendE, hab]
        rw [hfin.1, hfin.2]
        have HP := Lib.hid hp; have HI := Lib.hid hi; have HA := Lib.hid hab; clear hp hi hfin hab hk
        go_enter Tryz.func61, Tryz.ntmps61
        go_wp2_with (first | (go_at_call 121; refine (aNone_c h).mono ?_; rintro e w' ⟨rfl, rfl⟩) | (go_at_call 122; refine (aHolds_c h p).mono ?_; rintro e w' ⟨rfl, rfl⟩; rw [HP.out]) | (go_at_call 128; refine (aHangs_c h i).mono ?_; rintro e w' ⟨rfl, rfl⟩; rw [HI.out]) | (go_at_call 129; refine (aAbove_c h i p p1).mono ?_; rintro e w' ⟨rfl, rfl⟩; rw [HA.out]))
        go_ret
        exact ⟨rfl, Mut.refl _ _, h.refl⟩
end Go.Proofs.YtgaebaokcjhcdaaGreatDoor

/- Plain facts: what is above what after a node is hung elsewhere; the rounds of Move. -/
set_option linter.unusedVariables false
set_option linter.unusedSimpArgs false
namespace Go.Proofs.YtgaebaokcjhcdaaGreatDoor
open Lz

/-- By the way up. -/
theorem up_ind {ns : List Nd} (h : WF ns) {C : Int → Prop} (h0 : ∀ j, j < 0 → C j) (hs : ∀ j, 0 ≤ j → j < (ns.length : Int) → C (upN ns j) → C j) : ∀ j, j < (ns.length : Int) → C j := by
  obtain ⟨r, hr⟩ := h.rank
  have go : ∀ n j, j < (ns.length : Int) → (0 ≤ j → r j.toNat < n) → C j := by
    intro n
    induction n with
    | zero => intro j hj hn; by_cases hj0 : 0 ≤ j; exact absurd (hn hj0) (by omega); exact h0 j (by omega)
    | succ n ih =>
      intro j hj hn
      by_cases hj0 : 0 ≤ j
      · refine hs j hj0 hj (ih _ (upN_lt h hj0 hj) (fun hu => ?_))
        have := hr j.toNat (by omega) (by rw [Int.toNat_of_nonneg hj0]; exact hu)
        rw [Int.toNat_of_nonneg hj0] at this
        have := hn hj0; omega
      · exact h0 j (by omega)
  intro j hj
  exact go (if 0 ≤ j then r j.toNat + 1 else 0) j hj (fun h => by rw [if_pos h]; omega)

theorem above_self {ns : List Nd} (h : WF ns) (i : Int) (i0 : 0 ≤ i) (i1 : i < (ns.length : Int)) : aboveN ns i i = true := by
  rw [aboveN_step h _ _ i1, if_neg (by omega)]; simp
theorem above_neg {ns : List Nd} (i j : Int) (hj : j < 0) : aboveN ns i j = false := by
  simp [aboveN, aboveF, hj]
/-- What is above a node is above what it is above. -/
theorem above_up {ns : List Nd} (h : WF ns) (i a : Int) (a0 : 0 ≤ a) (a1 : a < (ns.length : Int)) (i0 : 0 ≤ i) (i1 : i < (ns.length : Int)) (hu : upN ns i = a) : ∀ j, j < (ns.length : Int) → aboveN ns i j = true → aboveN ns a j = true := by
  refine up_ind h (fun j hj hh => ?_) (fun j j0 j1 ih hh => ?_)
  · rw [above_neg _ _ hj] at hh; cases hh
  · rw [aboveN_step h _ _ j1, if_neg (by omega)] at hh ⊢
    split
    · rfl
    · split at hh
      · rename_i e
        have e : j = i := by simpa using e
        subst e
        rw [hu]
        exact above_self h a a0 a1
      · exact ih hh
theorem upN_hang {ns : List Nd} (h : WF ns) (p ref i : Int) (p0 : 0 ≤ p) (p1 : p < (ns.length : Int)) (i0 : 0 ≤ i) (i1 : i < (ns.length : Int)) (hpi : p ≠ i) (x : Int) (x0 : 0 ≤ x) (x1 : x < (ns.length : Int)) (hx : x ≠ i) : upN (hangN ns p ref i) x = upN ns x := by
  unfold upN
  rw [nodeAt_hangN h p ref i x p0 p1 i0 i1 hpi x0 x1, nodeAt_freeN h i x i0 i1 x0 x1]
  simp [hx]
/-- What stands above a node that is not below the one that is hung stays. -/
theorem above_hang {ns : List Nd} (h : WF ns) (p ref i : Int) (p0 : 0 ≤ p) (p1 : p < (ns.length : Int)) (i0 : 0 ≤ i) (i1 : i < (ns.length : Int)) (hk : (nodeAt ns i).kind ≠ 6) (hab : aboveN ns i p = false) (x : Int) :
    ∀ j, j < (ns.length : Int) → aboveN ns i j = false → aboveN (hangN ns p ref i) x j = aboveN ns x j := by
  have hpi : p ≠ i := by
    rintro rfl
    rw [above_self h p p0 p1] at hab; cases hab
  have hw := h.hang p ref i p0 p1 i0 i1 hk hab
  have hl := hangN_length ns p ref i
  refine up_ind h (fun j hj _ => ?_) (fun j j0 j1 ih hh => ?_)
  · rw [above_neg _ _ hj, above_neg _ _ hj]
  · rw [aboveN_step h _ _ j1, if_neg (by omega)] at hh
    have hji : j ≠ i := by rintro rfl; simp at hh
    have : (j == i) = false := beq_eq_false_iff_ne.2 hji
    rw [this] at hh
    rw [aboveN_step hw _ _ (by omega), aboveN_step h _ _ j1, upN_hang h p ref i p0 p1 i0 i1 hpi j j0 j1 hji, ih hh]

/-- Where Move stands, the kids that are still to come. -/
structure MoveOk (m : List Nd) (a b : Int) (rest : List Int) : Prop where
  wf : WF m
  a0 : 0 ≤ a
  a1 : a < (m.length : Int)
  b0 : 0 ≤ b
  b1 : b < (m.length : Int)
  ab : aboveN m a b = false
  kid : ∀ i ∈ rest, 0 ≤ i ∧ i < (m.length : Int) ∧ (nodeAt m i).parent = a ∧ (nodeAt m i).kind ≠ 6
  nodup : rest.Nodup
theorem MoveOk.above {m : List Nd} {a b i : Int} {rest : List Int} (h : MoveOk m a b (i :: rest)) : aboveN m i b = false := by
  obtain ⟨i0, i1, hp, hk⟩ := h.kid i (by simp)
  cases hh : aboveN m i b
  · rfl
  · have hu : upN m i = a := by unfold upN; rw [if_neg (by simpa using hk), hp]
    have := above_up h.wf i a h.a0 h.a1 i0 i1 hu b h.b1 hh
    rw [h.ab] at this; cases this
theorem MoveOk.next {m : List Nd} {a b i : Int} {rest : List Int} (h : MoveOk m a b (i :: rest)) : MoveOk (hangN m b (-1) i) a b rest := by
  obtain ⟨i0, i1, hp, hk⟩ := h.kid i (by simp)
  have hab := h.above
  have hl := hangN_length m b (-1) i
  have hbi : b ≠ i := by
    rintro rfl
    rw [above_self h.wf b h.b0 h.b1] at hab; cases hab
  have hn := List.nodup_cons.1 h.nodup
  refine ⟨h.wf.hang b (-1) i h.b0 h.b1 i0 i1 hk hab, h.a0, by rw [hl]; exact h.a1, h.b0, by rw [hl]; exact h.b1, ?_, fun x hx => ?_, hn.2⟩
  · rw [above_hang h.wf b (-1) i h.b0 h.b1 i0 i1 hk hab a b h.b1 hab]; exact h.ab
  · obtain ⟨x0, x1, hxp, hxk⟩ := h.kid x (by simp [hx])
    have hxi : x ≠ i := by rintro rfl; exact hn.1 hx
    rw [nodeAt_hangN h.wf b (-1) i x h.b0 h.b1 i0 i1 hbi x0 x1, nodeAt_freeN h.wf i x i0 i1 x0 x1]
    refine ⟨x0, by rw [hl]; exact x1, ?_, hxk⟩
    simp [hxi, hxp]
theorem MoveOk.start {ns : List Nd} (h : WF ns) (a b : Int) (a0 : 0 ≤ a) (a1 : a < (ns.length : Int)) (b0 : 0 ≤ b) (b1 : b < (ns.length : Int)) (hab : aboveN ns a b = false) : MoveOk ns a b (nodeAt ns a).kids := by
  have hl : a.toNat < ns.length := by omega
  have e := nodeAt_nat ns a a0
  refine ⟨h, a0, a1, b0, b1, hab, fun i hi => ?_, by rw [e]; exact h.nodup _ hl⟩
  rw [e] at hi
  obtain ⟨i0, i1, hp⟩ := h.kid _ hl i hi
  rw [Int.toNat_of_nonneg a0] at hp
  refine ⟨i0, i1, hp, fun h6 => ?_⟩
  rw [nodeAt_nat _ _ i0] at h6 hp
  have := (h.content i.toNat (by omega) h6).2
  omega
end Go.Proofs.YtgaebaokcjhcdaaGreatDoor
