/- The builder: New. -/
import Derived.Test.YtgaebaokcjhcdaaGreatDoorM09
import Derived.Maps.RangeWalk
import Derived.Shelf.Strings.PiecesUse
import Derived.Test.YtgaebaokcjhcdaaGreatDoorShelf2
import Derived.LoopTactic

set_option linter.unusedVariables false
set_option linter.unusedSimpArgs false
namespace Go.Proofs.YtgaebaokcjhcdaaGreatDoor
open Go.RowKit Lz
variable {w w' : World} {F : Nat → Prop}

def newSt : St := { nodes := newNodes, head := -1, form := -1 }
set_option maxRecDepth 100000 in
set_option maxHeartbeats 1000000 in
theorem bNew_c (w : World) (hg : Glob w) (hL0 : Laid0 w) :
    Calls Tryz.prog 35 #[] w fun e w' => ∃ b a st l, e = .returned (.pointer (some ⟨b, 0, none⟩)) ∧ Bel w w' ∧ BR w' (fun k => w.heap.size ≤ k ∧ k < w'.heap.size) b a st l newSt := by
  have HL := Lib.hid hL0
  clear hL0
  go_enter Tryz.func35, Tryz.ntmps35
  go_wp2_with (first | (go_at_call 107; refine (aNew_c _).mono ?_; rintro e w1 ⟨a, rfl, hb1, hA1⟩) | (go_at_call 108; refine (sNew_c hA1).mono ?_; rintro e w2 ⟨rfl, hb2, hS2⟩; have hA2 := hA1.bel hb2) | (go_at_call 109; refine (fNew_c hA2).mono ?_; rintro e w3 ⟨rfl, hb3, hL3⟩))
  go_ret
  have hb4 := bel_alloc w3 (.cells #[.pointer (some ⟨a, 0, none⟩), .pointer (some ⟨w1.heap.size, 0, none⟩), .pointer (some ⟨w2.heap.size, 0, none⟩), .int .i64 0, .int .i64 0, .slice none 0 0, .int .i64 (-1), .int .i64 (-1), .bool false, .bool false, .bool false, .string n_empty, .pointer none, .nilIface] 34 (0, 0))
  have s1 := hb1.size; have s2 := hb2.size; have s3 := hb3.size; have s4 := hg.size
  have hsz : ∀ o, (w3.alloc o).heap.size = w3.heap.size + 1 := by intro o; simp
  refine ⟨w3.heap.size, a, w1.heap.size, w2.heap.size, rfl, bel_tr hb1 (bel_tr hb2 (bel_tr hb3 hb4)), _, _, _, fun k => k = w3.heap.size, .slice none 0 0, .pointer none, { blk := heap_alloc_new w3 _, Fbb := rfl, modes := .inl ⟨rfl, rfl⟩, arena := hA2.bel (bel_tr hb3 hb4), stack := hS2.bel (bel_tr hb3 hb4), list := hL3.bel hb4, blt := fun k hk => by rw [hsz]; omega, as_ := fun k h1 h2 => by omega, al := fun k h1 h2 => by omega, ab := fun k h1 h2 => by omega, sl := fun k h1 h2 => by omega, sb := fun k h1 h2 => by omega, lb := fun k h1 h2 => by omega, glob := hg.bel (bel_tr hb1 (bel_tr hb2 (bel_tr hb3 hb4))), low := fun k hk => by omega, old := ⟨w, HL.out, by rw [hsz]; omega, fun k hk => (bel_tr hb1 (bel_tr hb2 (bel_tr hb3 hb4))).block k hk, fun k hk => by omega⟩ }, fun k hk => by rw [hsz]; omega⟩
end Go.Proofs.YtgaebaokcjhcdaaGreatDoor

/- What every step keeps: how many nodes, how long names and texts. No program in sight. -/
set_option linter.unusedVariables false
set_option linter.unusedSimpArgs false
namespace Go.Proofs.YtgaebaokcjhcdaaGreatDoor.Lz

/-- Two rows of nodes that part in kids and parents alone. -/
def Alike (ns ns' : List Nd) : Prop := ns'.length = ns.length ∧ ∀ i, (nodeAt ns' i).name = (nodeAt ns i).name ∧ (nodeAt ns' i).text = (nodeAt ns i).text ∧ (nodeAt ns' i).kind = (nodeAt ns i).kind ∧ (nodeAt ns' i).space = (nodeAt ns i).space ∧ (nodeAt ns' i).attrs = (nodeAt ns i).attrs
theorem Alike.refl (ns : List Nd) : Alike ns ns := ⟨rfl, fun _ => ⟨rfl, rfl, rfl, rfl, rfl⟩⟩
theorem Alike.trans {a b c : List Nd} (h : Alike a b) (k : Alike b c) : Alike a c :=
  ⟨k.1.trans h.1, fun i => ⟨(k.2 i).1.trans (h.2 i).1, (k.2 i).2.1.trans (h.2 i).2.1, (k.2 i).2.2.1.trans (h.2 i).2.2.1, (k.2 i).2.2.2.1.trans (h.2 i).2.2.2.1, (k.2 i).2.2.2.2.trans (h.2 i).2.2.2.2⟩⟩
theorem nodeAt_modify (ns : List Nd) (p : Nat) (f : Nd → Nd) (i : Int) : nodeAt (ns.modify p f) i = if 0 ≤ i ∧ i.toNat = p ∧ p < ns.length then f (nodeAt ns i) else nodeAt ns i := by
  unfold nodeAt
  by_cases h0 : 0 ≤ i
  · simp only [h0, if_true, true_and]
    by_cases hi : i.toNat < ns.length
    · rw [getD_modify' _ hi]
      by_cases hp : i.toNat = p
      · simp [hp, hp ▸ hi]
      · simp [hp]
    · have h1 : ns.getD i.toNat nd0 = nd0 := by simp [List.getD_eq_getElem?_getD, List.getElem?_eq_none (Nat.le_of_not_lt hi)]
      have h2 : (ns.modify p f).getD i.toNat nd0 = nd0 := by
        rw [List.getD_eq_getElem?_getD, List.getElem?_eq_none (by simpa using Nat.le_of_not_lt hi)]; rfl
      rw [h1, h2]
      by_cases hp : i.toNat = p ∧ p < ns.length
      · omega
      · simp [hp]
  · simp [h0]
theorem alike_modify (ns : List Nd) (p : Nat) (f : Nd → Nd) (hf : ∀ n, (f n).name = n.name ∧ (f n).text = n.text ∧ (f n).kind = n.kind ∧ (f n).space = n.space ∧ (f n).attrs = n.attrs) : Alike ns (ns.modify p f) := by
  refine ⟨by simp, fun i => ?_⟩
  rw [nodeAt_modify]
  split
  · exact hf _
  · exact ⟨rfl, rfl, rfl, rfl, rfl⟩
theorem alike_setKids (ns : List Nd) (p : Int) (l : List Int) : Alike ns (setKids ns p l) := alike_modify _ _ _ fun _ => ⟨rfl, rfl, rfl, rfl, rfl⟩
theorem alike_setParent (ns : List Nd) (p q : Int) : Alike ns (setParent ns p q) := alike_modify _ _ _ fun _ => ⟨rfl, rfl, rfl, rfl, rfl⟩
theorem alike_freeN (ns : List Nd) (i : Int) : Alike ns (freeN ns i) := by
  unfold freeN
  simp only []
  split
  · exact .refl _
  · exact (alike_setKids _ _ _).trans (alike_setParent _ _ _)
theorem alike_hangN (ns : List Nd) (p ref i : Int) : Alike ns (hangN ns p ref i) := (alike_freeN ns i).trans ((alike_setKids _ _ _).trans (alike_setParent _ _ _))
theorem alike_appendN (ns : List Nd) (p i : Int) : Alike ns (appendN ns p i) := by
  unfold appendN
  split
  · exact alike_hangN _ _ _ _
  · exact .refl _
theorem alike_beforeN (ns : List Nd) (p i : Int) : Alike ns (beforeN ns p i) := by
  unfold beforeN
  split
  · exact alike_hangN _ _ _ _
  · exact .refl _
theorem alike_foldl (b : Int) : ∀ (l : List Int) (ns : List Nd), Alike ns (l.foldl (fun m i => hangN m b (-1) i) ns)
  | [], ns => .refl _
  | x :: r, ns => (alike_hangN ns b (-1) x).trans (alike_foldl b r _)
theorem alike_moveN (ns : List Nd) (a b : Int) : Alike ns (moveN ns a b) := by
  unfold moveN
  split
  · exact alike_foldl _ _ _
  · exact .refl _

theorem nodeAt_append (ns l : List Nd) (i : Int) : nodeAt (ns ++ l) i = if i < (ns.length : Int) then nodeAt ns i else nodeAt l (i - ns.length) := by
  unfold nodeAt
  by_cases h0 : 0 ≤ i
  · simp only [h0, if_true]
    by_cases h1 : i < (ns.length : Int)
    · rw [if_pos h1, List.getD_eq_getElem?_getD, List.getElem?_append_left (by omega), List.getD_eq_getElem?_getD]
    · rw [if_neg h1, if_pos (by omega), List.getD_eq_getElem?_getD, List.getElem?_append_right (by omega), List.getD_eq_getElem?_getD]
      congr 2; omega
  · simp only [h0, if_false]
    rw [if_pos (by omega)]
theorem nodeAt_one (n : Nd) (i : Int) : nodeAt [n] i = if i = 0 then n else nd0 := by
  unfold nodeAt
  by_cases h : i = 0
  · subst h; simp
  · rw [if_neg h]
    split
    · have : ∃ k, i.toNat = k + 1 := ⟨i.toNat - 1, by omega⟩
      obtain ⟨k, hk⟩ := this
      rw [hk]; rfl
    · rfl
theorem addN_plain {ns : List Nd} {n : Nd} (h : isTemplate n = false) : addN ns n = ns ++ [bareN n] := by
  unfold addN; rw [h]; simp

structure Fine (n : Nat) (s : St) : Prop where
  foster : s.foster = false
  room : s.nodes.length ≤ n
  names : ∀ k, (s.el k).name.size < 1000000
  nms : ∀ i, (nodeAt s.nodes i).name.size < 1000000
  tmpl : ∀ i, (nodeAt s.nodes i).name ≠ n_template
  texts : ∀ i, (nodeAt s.nodes i).text.size ≤ 1048576 * n
namespace Fine
variable {n m : Nat} {s : St}
theorem mono (h : Fine n s) (hn : n ≤ m) : Fine m s :=
  { h with room := Nat.le_trans h.room hn, texts := fun i => Nat.le_trans (h.texts i) (by omega) }
/-- Parts that do not count. -/
theorem same (h : Fine n s) {s' : St} (h1 : s'.nodes = s.nodes) (h2 : s'.foster = s.foster) (h3 : ∀ k, (s'.el k).name.size < 1000000) : Fine n s' :=
  { foster := h2.trans h.foster, room := by rw [h1]; exact h.room, names := h3, nms := by rw [h1]; exact h.nms, tmpl := by rw [h1]; exact h.tmpl, texts := by rw [h1]; exact h.texts }
theorem alike (h : Fine n s) {ns : List Nd} (ha : Alike s.nodes ns) : Fine n { s with nodes := ns } :=
  { h with room := by rw [ha.1]; exact h.room, nms := fun i => by rw [(ha.2 i).1]; exact h.nms i, tmpl := fun i => by rw [(ha.2 i).1]; exact h.tmpl i, texts := fun i => by rw [(ha.2 i).2.1]; exact h.texts i }
theorem set (h : Fine n s) (m : Int) : Fine n { s with mode := m } := h.same rfl rfl h.names
theorem head (h : Fine n s) (m : Int) : Fine n { s with head := m } := h.same rfl rfl h.names
theorem quirks (h : Fine n s) (m : Bool) : Fine n { s with quirks := m } := h.same rfl rfl h.names
theorem skip (h : Fine n s) (m : Bool) : Fine n { s with skip := m } := h.same rfl rfl h.names
theorem fail (h : Fine n s) (e : Int) : Fine n (s.fail e) := by
  unfold St.fail
  split
  · exact h.same rfl rfl h.names
  · exact h
theorem size0 : ({} : OpEl).name.size < 1000000 := by decide
theorem stk_of (h : Fine n s) {s' : St} (h1 : s'.nodes = s.nodes) (h2 : s'.foster = s.foster) (h3 : ∀ o ∈ s'.stk, o ∈ s.stk) : Fine n s' := by
  refine h.same h1 h2 fun k => ?_
  unfold St.el
  rw [List.getD_eq_getElem?_getD]
  cases hk : s'.stk[k]? with
  | none => exact size0
  | some o =>
    have := h3 o (List.mem_of_getElem? hk)
    obtain ⟨j, hj⟩ := List.mem_iff_getElem?.1 this
    have := h.names j
    unfold St.el at this
    rw [List.getD_eq_getElem?_getD, hj] at this
    exact this
theorem cut (h : Fine n s) (k : Nat) : Fine n (s.cut k) := h.stk_of rfl rfl fun o ho => List.mem_of_mem_take ho
theorem pop (h : Fine n s) : Fine n s.pop := h.stk_of rfl rfl fun o ho => List.mem_of_mem_take ho
theorem implied (h : Fine n s) (b : Str) : Fine n (s.implied b) := h.cut _
theorem until_ (h : Fine n s) (l : List Str) : Fine n (s.until_ l) := by
  unfold St.until_; split
  · exact h
  · exact h.cut _
theorem remove (h : Fine n s) (i : Int) : Fine n (s.remove i) := by
  unfold St.remove; split
  · exact h
  · exact h.stk_of rfl rfl fun o ho => List.mem_of_mem_eraseIdx ho
theorem closeP (h : Fine n s) : Fine n s.closeP := by
  unfold St.closeP; split
  · exact (h.implied _).until_ _
  · exact h
theorem popTo (h : Fine n s) (k : Int) : Fine n (s.popTo k) := by
  unfold St.popTo; split
  · exact h.cut _
  · exact h
theorem fmts (h : Fine n s) {s' : St} (h1 : s'.nodes = s.nodes) (h2 : s'.foster = s.foster) (h3 : s'.stk = s.stk) : Fine n s' := h.stk_of h1 h2 (by rw [h3]; exact fun _ h => h)
theorem fremove (h : Fine n s) (i : Int) : Fine n (s.fremove i) := by
  unfold St.fremove; split
  · exact h
  · exact h.fmts rfl rfl rfl
theorem lay (h : Fine n s) (k : Nat) (i : Int) : Fine n (s.lay k i) := by
  unfold St.lay; split
  · exact h.fmts rfl rfl rfl
  · exact h
theorem ffree (h : Fine n s) (i : Int) : Fine n (s.ffree i) := by
  unfold St.ffree; split
  · exact h.fmts rfl rfl rfl
  · exact h
theorem fpush (h : Fine n s) (i : Int) : Fine n (s.fpush i) := by
  unfold St.fpush; split
  · exact h
  · exact (h.ffree i).lay _ _
theorem finsert (h : Fine n s) (k i : Int) : Fine n (s.finsert k i) := by
  unfold St.finsert; split
  · exact h
  · split
    · exact h
    · exact h.lay _ _
theorem freplace (h : Fine n s) (k i : Int) : Fine n (s.freplace k i) := by
  unfold St.freplace; split
  · exact h.fmts rfl rfl rfl
  · exact h
theorem insert (h : Fine n s) (k i : Int) : Fine n (s.insert k i) := by
  unfold St.insert; split
  · refine h.same rfl rfl fun j => ?_
    unfold St.el
    rw [List.getD_eq_getElem?_getD]
    cases hj : (s.stk.take k.toNat ++ s.element i :: s.stk.drop k.toNat)[j]? with
    | none => exact size0
    | some o =>
      have ho := List.mem_of_getElem? hj
      rw [List.mem_append, List.mem_cons] at ho
      have hm : o = s.element i ∨ o ∈ s.stk := by
        rcases ho with ho | ho | ho
        · exact .inr (List.mem_of_mem_take ho)
        · exact .inl ho
        · exact .inr (List.mem_of_mem_drop ho)
      rcases hm with rfl | hm
      · exact h.nms i
      · obtain ⟨q, hq⟩ := List.mem_iff_getElem?.1 hm
        have := h.names q
        unfold St.el at this
        rw [List.getD_eq_getElem?_getD, hq] at this
        exact this
  · exact h
theorem push (h : Fine n s) (i : Int) : Fine n (s.push i) := h.insert _ _
theorem replace (h : Fine n s) (k i : Int) : Fine n (s.replace k i) := by
  unfold St.replace; split
  · refine h.same rfl rfl fun j => ?_
    unfold St.el
    rw [List.getD_eq_getElem?_getD, List.getElem?_set]
    split
    · split
      · exact h.nms i
      · exact size0
    · have := h.names j
      unfold St.el at this
      rw [List.getD_eq_getElem?_getD] at this
      exact this
  · exact h
theorem addPlain (h : Fine n s) (x : Nd) (h1 : x.name.size < 1000000) (h2 : x.name ≠ n_template) (h3 : x.text.size ≤ 1048576) : Fine (n + 1) { s with nodes := addN s.nodes x } := by
  have e : addN s.nodes x = s.nodes ++ [bareN x] := addN_plain (by
    unfold isTemplate
    have : (x.name == n_template) = false := beq_eq_false_iff_ne.2 h2
    rw [this]; simp)
  have hn := h.room
  have z1 : n_empty.size < 1000000 := by decide
  have z2 : n_empty ≠ n_template := by decide
  have z3 : n_empty.size = 0 := by decide
  refine { h with room := by rw [e]; simp; omega, nms := fun i => ?_, tmpl := fun i => ?_, texts := fun i => ?_ }
  all_goals (simp only [e, nodeAt_append, nodeAt_one]; split)
  · exact h.nms i
  · split
    · exact h1
    · exact z1
  · exact h.tmpl i
  · split
    · exact h2
    · exact z2
  · have := h.texts i; omega
  · split
    · show x.text.size ≤ _; omega
    · show n_empty.size ≤ _; omega
theorem add (h : Fine n s) (x : Nd) (h1 : x.name.size < 1000000) (h2 : x.name ≠ n_template) (h3 : x.text.size ≤ 1048576) : Fine (n + 1) (s.add x) := by
  unfold St.add
  split
  · exact h.addPlain x h1 h2 h3
  · exact h.mono (by omega)
theorem put (h : Fine n s) (i t : Int) : Fine n (s.put i t) := by
  unfold St.put
  simp only []
  split
  · exact h.alike (alike_beforeN _ _ _)
  · exact h.alike (alike_appendN _ _ _)
theorem ins (h : Fine n s) (t : Tok) (sp : Int) (h1 : t.name.size < 1000000) (h2 : t.name ≠ n_template) : Fine (n + 1) (s.ins t sp) := by
  unfold St.ins
  split
  · exact (h.fail _).mono (by omega)
  · simp only []
    exact (((h.add (St.tagNd t sp) h1 h2 (by show n_empty.size ≤ _; decide)).put _ _).push _).fail _
theorem only (h : Fine n s) (t : Tok) (h1 : t.name.size < 1000000) (h2 : t.name ≠ n_template) : Fine (n + 1) (s.only t) := by
  unfold St.only
  split
  · exact h.ins t 0 h1 h2
  · exact (h.ins t 0 h1 h2).pop
theorem imply (h : Fine n s) (x : Str) (h1 : x.size < 1000000) (h2 : x ≠ n_template) : Fine (n + 1) (s.imply x) := h.ins (St.impTok x) 0 h1 h2
theorem addText (h : Fine n s) (i : Int) (x : Str) (hx : x.size ≤ 1048576) : Fine (n + 1) { s with nodes := addText s.nodes i x } := by
  have hn := h.room
  have hk : ∀ j, (nodeAt (Lz.addText s.nodes i x) j).name = (nodeAt s.nodes j).name ∧ (nodeAt (Lz.addText s.nodes i x) j).text.size ≤ (nodeAt s.nodes j).text.size + x.size := fun j => by
    unfold Lz.addText
    rw [nodeAt_modify]
    split
    · exact ⟨rfl, by show ((nodeAt s.nodes j).text ++ x).size ≤ _; rw [ByteArray.size_append]; omega⟩
    · exact ⟨rfl, by omega⟩
  exact { h with room := by show (Lz.addText s.nodes i x).length ≤ _; unfold Lz.addText; simp; omega, nms := fun j => by rw [(hk j).1]; exact h.nms j, tmpl := fun j => by rw [(hk j).1]; exact h.tmpl j, texts := fun j => by have h1 := (hk j).2; have h2 := h.texts j; show (nodeAt (Lz.addText s.nodes i x) j).text.size ≤ _; omega }
theorem textN (h : Fine n s) (p ref : Int) (x : Str) (hx : x.size ≤ 1048576) : Fine (n + 1) { s with nodes := textN s.nodes p ref x } := by
  have keep : Fine (n + 1) { s with nodes := s.nodes } := h.mono (by omega)
  have hadd := h.addPlain ⟨4, n_empty, x, 0, [], false, 0, 0, [], -1, -1⟩ (show n_empty.size < _ by decide) (show n_empty ≠ _ by decide) hx
  unfold Lz.textN
  by_cases h0 : (textE s.nodes p ref != 0 || x == n_empty) = true
  · rw [if_pos h0]; exact keep
  · rw [if_neg h0]
    simp only []
    generalize (if 0 ≤ ref then List.idxOf ref (nodeAt s.nodes p).kids else (nodeAt s.nodes p).kids.length) = k
    by_cases h1 : (decide (0 < k) && (nodeAt s.nodes ((nodeAt s.nodes p).kids.getD (k - 1) 0)).kind == 4) = true
    · rw [if_pos h1]; exact h.addText _ x hx
    · rw [if_neg h1]; exact hadd.alike (alike_hangN _ _ _ _)
theorem chars (h : Fine n s) (x : Str) (hx : x.size ≤ 1048576) : Fine (n + 1) (s.chars x) := by
  unfold St.chars
  simp only []
  split
  · exact h.textN _ _ x hx
  · exact h.mono (by omega)
theorem comment (h : Fine n s) (t : Tok) (into : Int) (hx : t.text.size ≤ 1048576) : Fine (n + 1) (s.comment t into) := by
  unfold St.comment
  simp only []
  have h1 := h.add ⟨5, n_empty, t.text, 0, [], false, 0, 0, [], -1, -1⟩ (show n_empty.size < _ by decide) (show n_empty ≠ _ by decide) hx
  split
  · exact h1.put _ _
  · exact h1.alike (alike_appendN _ _ _)
theorem fresh (h : Fine n s) (i : Int) : Fine (n + 1) (s.fresh i) := h.add (s.freshNd i) (h.nms i) (h.tmpl i) (by show n_empty.size ≤ _; decide)
/-- Room for what comes, as the contracts ask for it. -/
theorem room2 (h : Fine n s) (hn : n + 2 ≤ 1048576) : s.nodes.length + 2 ≤ 1048576 := by have := h.room; omega
theorem long (h : Fine n s) (hn : n ≤ 1048576) (x : Str) (hx : x.size ≤ 1048576) : ∀ i, (nodeAt s.nodes i).text.size + x.size ≤ 9223372036854775807 := fun i => by have := h.texts i; omega
end Fine
end Go.Proofs.YtgaebaokcjhcdaaGreatDoor.Lz

/- Tables of rules: what a map reads as that is filled name by name, in whatever order the rows come. No program in sight. -/
set_option linter.unusedVariables false
set_option linter.unusedSimpArgs false
namespace Go.Proofs.YtgaebaokcjhcdaaGreatDoor
open Lz

/-- How an element that is a function reads: as itself. -/
def heldR : Value → Option (DataW Value × List MemPlace) := fun v => some (.held v, [])
abbrev keyS (x : Str) : Lit := .string x.data.toList
theorem keyS_inj {x y : Str} (h : keyS x = keyS y) : x = y := by
  injection h with h
  cases x with | mk x => cases y with | mk y => cases x; cases y; simp_all
theorem keyS_isKey (x : Str) : WideAt.IsKeyLit (keyS x) := trivial
def hitOf (es : List (Str × Value)) (so : Str → Bool) (name : Str) : Option Value := (es.find? fun e => so e.1 && (Lib.fieldsB e.1).contains name).map (·.2)
def orZ (v : Option Value) (z : DataW Value) : DataW Value := match v with | some v => .held v | none => z
/-- The map that is filled: the names of the rows that are so. -/
def OutIs (D : DataW Value) (f : Str → Option Value) : Prop := Maps.IsMap D ∧ ∀ name z, D.atKey (keyS name) z = orZ (f name) z
theorem outIs_start (es : List (Str × Value)) : OutIs (.map []) (hitOf es fun _ => false) :=
  ⟨Maps.isMap_empty, fun name z => by
    have : hitOf es (fun _ => false) name = none := by
      unfold hitOf
      rw [List.find?_eq_none.2 (fun x _ => by simp)]; rfl
    rw [this]; rfl⟩
/-- Some names of a row more. -/
def withs (f : Str → Option Value) (l : List Str) (v : Value) (name : Str) : Option Value := if l.contains name then some v else f name
theorem withs_nil (f : Str → Option Value) (v : Value) : withs f [] v = f := by funext n; simp [withs]
theorem OutIs.put {D : DataW Value} {f : Str → Option Value} {l : List Str} {v : Value} (h : OutIs D (withs f l v)) (x : Str) : OutIs (D.put (keyS x) (.held v)) (withs f (l ++ [x]) v) := by
  refine ⟨h.1.put _ _, fun name z => ?_⟩
  by_cases hx : name = x
  · subst hx
    rw [Maps.atKey_put_same h.1 (keyS_isKey _)]
    simp [withs, orZ]
  · rw [Maps.atKey_put_other (fun e => hx (keyS_inj e)), h.2]
    simp [withs, hx]
/-- No name stands in two rows, no row twice. -/
def apartRows : List (Str × Value) → Prop
  | [] => True
  | e :: r => (∀ e' ∈ r, e'.1 ≠ e.1 ∧ ∀ x ∈ Lib.fieldsB e.1, x ∉ Lib.fieldsB e'.1) ∧ apartRows r
theorem find_congr {α : Type} {p q : α → Bool} : ∀ {l : List α}, (∀ x ∈ l, p x = q x) → l.find? p = l.find? q
  | [], _ => rfl
  | a :: r, h => by
    rw [List.find?_cons, List.find?_cons, h a (by simp), find_congr (fun x hx => h x (by simp [hx]))]
theorem hit_more {es : List (Str × Value)} (ha : apartRows es) {e : Str × Value} (he : e ∈ es) (so : Str → Bool) (hso : so e.1 = false) :
    withs (hitOf es so) (Lib.fieldsB e.1) e.2 = hitOf es fun k => so k || k == e.1 := by
  funext name
  induction es with
  | nil => cases he
  | cons a r ih =>
    obtain ⟨h1, h2⟩ := ha
    unfold withs hitOf
    rw [List.find?_cons, List.find?_cons]
    simp only []
    rcases List.mem_cons.1 he with rfl | hr
    · have e0 : (false || e.1 == e.1) = true := by simp
      rw [hso, e0, Bool.false_and, Bool.true_and]
      cases hc : (Lib.fieldsB e.1).contains name
      · simp only [Bool.false_eq_true, if_false]
        have : (r.find? fun e' => so e'.1 && (Lib.fieldsB e'.1).contains name) = r.find? fun e' => (so e'.1 || e'.1 == e.1) && (Lib.fieldsB e'.1).contains name := by
          refine find_congr fun e' he' => ?_
          have hf : (e'.1 == e.1) = false := beq_eq_false_iff_ne.2 (h1 e' he').1
          rw [hf, Bool.or_false]
        rw [this]
      · simp
    · have hne := (h1 e hr).1
      have e0 : (so a.1 || a.1 == e.1) = so a.1 := by simp [Ne.symm hne]
      rw [e0]
      cases hsa : (so a.1 && (Lib.fieldsB a.1).contains name)
      · have := ih h2 hr
        unfold withs hitOf at this
        simpa using this
      · have hn : name ∈ Lib.fieldsB a.1 := by simpa using (Bool.and_eq_true_iff.1 hsa).2
        have : ¬ name ∈ Lib.fieldsB e.1 := (h1 e hr).2 name hn
        simp [this]
theorem hit_all {es : List (Str × Value)} (so : Str → Bool) (hso : ∀ e ∈ es, so e.1 = true) : hitOf es so = hitOf es fun _ => true := by
  funext name
  unfold hitOf
  congr 1
  refine find_congr fun e he => ?_
  rw [hso e he]
theorem hit_congr {es : List (Str × Value)} {so so' : Str → Bool} (h : ∀ e ∈ es, so e.1 = so' e.1) : hitOf es so = hitOf es so' := by
  funext name
  unfold hitOf
  congr 1
  refine find_congr fun e he => ?_
  rw [h e he]
/-- The map that the rows are handed in by. -/
def RowsIs (D : DataW Value) (es : List (Str × Value)) : Prop := D = .map (es.map fun e => (keyS e.1, .held e.2))
/-- A row that comes out of the map is one of them. -/
theorem rows_of {D : DataW Value} {es : List (Str × Value)} (h : ∀ kl, Maps.has D kl = true → ∃ e ∈ es, kl = keyS e.1 ∧ ∀ z, D.atKey kl z = .held e.2) {kl : Lit} (hk : Maps.has D kl = true) : ∃ e ∈ es, kl = keyS e.1 ∧ ∀ z, D.atKey kl z = .held e.2 := h kl hk
end Go.Proofs.YtgaebaokcjhcdaaGreatDoor

/- bodies.table: rules by names out of rules by rows of names. -/
set_option linter.unusedVariables false
set_option linter.unusedSimpArgs false
namespace Go.Proofs.YtgaebaokcjhcdaaGreatDoor
open Go.RowKit Lz Go.Maps

theorem keysL : Keyed Tryz.prog 9 := string_keyed Tryz.underlying9
theorem bel_grownB {w a c : World} {B : Nat} (h : Bel w a) (g : a.grownBy c (some B)) (hB : w.heap.size ≤ B) : Bel w c :=
  ⟨g.os.trans h.os, g.tape.trans h.tape, g.output.trans h.output, Nat.le_trans h.size g.size, fun k hk => (g.block k (Nat.lt_of_lt_of_le hk h.size) (by intro e; injection e with e; omega)).trans (h.block k hk)⟩
theorem bel_grownB0 {w a c : World} (h : Bel w a) (g : a.grownBy c none) : Bel w c :=
  ⟨g.os.trans h.os, g.tape.trans h.tape, g.output.trans h.output, Nat.le_trans h.size g.size, fun k hk => (g.block k (Nat.lt_of_lt_of_le hk h.size) (by simp)).trans (h.block k hk)⟩
theorem keyOf_string_inv' {P : Program} {k : TypeId} (hk : P.underlying k = some .string) {key : Value} {kl : Lit} (h : keyOf P k key = some kl) : ∃ x, key = .string x ∧ kl = keyS x := by
  cases key <;> simp [keyOf, hk, mapKey] at h
  obtain ⟨_, rfl⟩ := h
  exact ⟨_, rfl, rfl⟩
/-- A map that holds just these rows. -/
structure RowsOK (D : DataW Value) (es : List (Str × Value)) : Prop where
  only : ∀ kl, Maps.has D kl = true → ∃ e ∈ es, kl = keyS e.1
  all : ∀ e ∈ es, Maps.has D (keyS e.1) = true ∧ ∀ z, D.atKey (keyS e.1) z = .held e.2
  size : Maps.size D ≤ es.length
structure Plain64 (es : List (Str × Value)) : Prop where
  apart : apartRows es
  len : es.length ≤ 60
  size : ∀ e ∈ es, e.1.size < 4294967281
  ascii : ∀ e ∈ es, ∀ (j : Nat) b, e.1.data.toList[j]? = some b → b.toNat < 128
  names : ∀ e ∈ es, (Lib.fieldsB e.1).length ≤ 60
  short : ∀ e ∈ es, ∀ x ∈ Lib.fieldsB e.1, x.size ≤ 1000000
theorem tabIs_of {w w' : World} (h : Lib.TabIs Tryz.prog w "strings.asciiSpace" .u8 Lib.asciiSpaceTab) (hk : w'.heap[1]? = w.heap[1]?) : Lib.TabIs Tryz.prog w' "strings.asciiSpace" .u8 Lib.asciiSpaceTab := by
  have hg : Tryz.prog.globalNamed "strings.asciiSpace" = some 1 := by kernel_rfl
  unfold Lib.TabIs World.var? at h ⊢
  simp only [hg, Option.bind_some] at h ⊢
  rw [hk]; exact h
theorem sameKey_keyS (k x : Str) : (keyS k).sameKey (keyS x) = (k == x) := by
  by_cases h : k = x
  · subst h; rw [WideAt.sameKey_self (keyS_isKey _)]; simp
  · rw [Maps.sameKey_ne (fun e => h (keyS_inj e)), beq_eq_false_iff_ne.2 h]
theorem row_out {D : DataW Value} {es : List (Str × Value)} (hro : RowsOK D es) {x : ByteArray} {c : Value} {kl : Lit} {y : DataW Value} {ps : List MemPlace} (hh : Maps.has D kl = true) (hkey : keyOf Tryz.prog 9 (.string x) = some kl) (hR : heldR c = some (y, ps)) (hat : ∀ zd, D.atKey kl zd = y) :
    (x, c) ∈ es ∧ kl = keyS x := by
  obtain ⟨x', hx', rfl⟩ := keyOf_string_inv' Tryz.underlying9 hkey
  cases hx'
  obtain ⟨e, he, hke⟩ := hro.only _ hh
  have hxe := keyS_inj hke
  obtain ⟨nm, vl⟩ := e
  cases hxe
  have h2 := hat .nil
  rw [(hro.all _ he).2] at h2
  have h3 : some (DataW.held c, ([] : List MemPlace)) = some (y, ps) := hR
  injection h3 with h3
  rw [← (Prod.mk.inj h3).1] at h2
  injection h2 with h2
  rw [← h2]
  exact ⟨he, rfl⟩
theorem fields_c (x : ByteArray) (w : World) (hs : x.size < 4294967281) (hascii : ∀ (j : Nat) b, x.data.toList[j]? = some b → b.toNat < 128) (htab : Lib.TabIs Tryz.prog w "strings.asciiSpace" .u8 Lib.asciiSpaceTab) :
    Calls Tryz.prog 136 #[.string x] w fun e w' => e = .returned (.slice (some ⟨w.heap.size, 0, none⟩) (Lib.fieldsB x).length (Lib.fieldsB x).length) ∧ w'.heap[w.heap.size]? = some (.cells ((Lib.fieldsB x).map Value.string).toArray 9 (0, 0)) ∧ w.grownBy w' none ∧ w'.heap.size = w.heap.size + 1 := by
  have h := Tryz.strings_Fields_laid x w hs hascii htab
  rw [Lib.fields_pieces, ← Lib.fieldsB_length] at h
  refine h.mono fun e w' ⟨h1, h2⟩ => ⟨h1, ?_, ?_, ?_⟩
  · rw [h2]; exact heap_alloc_new w _
  · rw [h2]; exact World.grownBy_alloc w _ none
  · rw [h2]; simp
/-- What the loop over the rows keeps. -/
def TabRel (w : World) (b n : Nat) (D : DataW Value) (es : List (Str × Value)) (wr : World) (left : Lit → Bool) (cnt m : Nat) (D' : DataW Value) : Prop :=
  wr.ranges Tryz.prog 9 heldR b (w.heap.size + 1) n D left cnt ∧ wr.ownsMap Tryz.prog 9 heldR w.heap.size m D' ∧ OutIs D' (hitOf es fun k => !left (keyS k)) ∧ m + 64 * cnt ≤ 4096 ∧ Bel w wr ∧ (∀ kl, left kl = true → Maps.has D kl = true) ∧ w.heap.size + 2 ≤ wr.heap.size
/-- .. and the loop over a row's names. -/
def TabRel2 (w wi : World) (b n : Nat) (D : DataW Value) (es : List (Str × Value)) (x : Str) (c : Value) (wr : World) (left0 left : Lit → Bool) (cnt m : Nat) (D' : DataW Value) (j : Nat) : Prop :=
  wr.ranges Tryz.prog 9 heldR b (w.heap.size + 1) n D left cnt ∧ wr.ownsMap Tryz.prog 9 heldR w.heap.size (m + j) D' ∧ OutIs D' (withs (hitOf es fun k => !left0 (keyS k)) ((Lib.fieldsB x).take j) c) ∧ wi.grownBy wr (some w.heap.size)

set_option maxRecDepth 100000 in
theorem table_c (w : World) (b n : Nat) (D : DataW Value) (es : List (Str × Value)) (hown : w.ownsMap Tryz.prog 9 heldR b n D) (hro : RowsOK D es) (hpl : Plain64 es)
    (htab : Lib.TabIs Tryz.prog w "strings.asciiSpace" .u8 Lib.asciiSpaceTab) (h1 : 1 < w.heap.size) :
    Calls Tryz.prog 65 #[.map (some b)] w fun e w' => ∃ B m D', e = .returned (.map (some B)) ∧ w'.ownsMap Tryz.prog 9 heldR B m D' ∧ OutIs D' (hitOf es fun _ => true) ∧ Bel w w' := by
  have hmm := @run_makeMap Tryz.prog
  have hbB : b ≠ w.heap.size := Nat.ne_of_lt hown.lt
  go_enter Tryz.func65, Tryz.ntmps65
  go_wp2_with (first
    | (at_range; refine wpList_range_own _ rfl _ 65 rfl 9 64 keysL Tryz.underlying65 heldR b n D rfl (hown.alloc _) ?_; intro w0 hrg0 hg0 hs0)
    | go_in)
  go_frame
  have hz0 : w0.heap.size = w.heap.size + 2 := by rw [hs0]; simp
  have hB0 : Bel w w0 := bel_grownB0 (bel_alloc w _) hg0
  have ho0 := (World.ownsMap_made (H := Value) w Tryz.prog 9 heldR).kept hg0 (by simp)
  have hr0 : (w.alloc (.map #[] 0)).heap.size = w.heap.size + 1 := by simp
  rw [hr0] at hrg0
  rw [hr0]
  have HZ0 := Lib.hid hz0
  clear hs0 hz0 hr0 hg0
  go_loopw [4] (fun _ wr => ∃ (left : Lit → Bool) (cnt m : Nat) (D' : DataW Value), TabRel w b n D es wr left cnt m D')
    (fun _ wr => wr.rangeLeft b (w.heap.size + 1))
  case atStart =>
    refine ⟨_, _, 0, _, hrg0, ho0, ?_, ?_, hB0, fun _ h => h, by rw [HZ0.out]; exact Nat.le_refl _⟩
    · have e : hitOf es (fun k => !Maps.has D (keyS k)) = hitOf es fun _ => false := hit_congr fun e he => by rw [(hro.all e he).1]; rfl
      rw [e]; exact outIs_start es
    · have := hro.size; have := hpl.len; omega
  case round =>
    obtain ⟨left, cnt, m, D', hrg, hou, hO, hmc, hB, hlf, hsz⟩ := hrel
    clear hrg0 ho0 hB0 HZ0
    go_wp2_with (first
      | (at_next; refine wpList_next_ranges _ rfl _ rfl 9 keysL heldR Value.string (fun v => v) (fun key kl hk => (keyOf_string_inv' Tryz.underlying9 hk).imp fun x hx => hx.1) (fun v y _ => ⟨v, rfl⟩) b (w.heap.size + 1) n D left cnt rfl hrg ?_ ?_)
      | go_in)
    · intro _ hl0
      go_wp2
      go_ret
      have e : hitOf es (fun k => !left (keyS k)) = hitOf es fun _ => true := hit_congr fun e he => by rw [hl0]; rfl
      exact ⟨w.heap.size, m, D', rfl, hou, e ▸ hO, hB⟩
    · intro x c kl y ps w1 cnt1 hkey hlx hR hat hrg1 hlt hg1 hs1 hen
      obtain ⟨he, rfl⟩ := row_out hro (hlf _ hlx) hkey hR hat
      clear hkey hR hat
      have hgB : Bel w w1 := bel_grownB hB hg1 (by omega)
      have hF := fields_c x w1 (hpl.size _ he) (hpl.ascii _ he) (tabIs_of htab (hgB.block 1 h1))
      have hnl : (Lib.fieldsB x).length ≤ 60 := hpl.names _ he
      have hsz1 : w.heap.size + 2 ≤ w1.heap.size := by omega
      have hou1 := hou.kept hg1 (by simp)
      have HO := Lib.hid hO; have HS1 := Lib.hid hs1; have HF := Lib.hid hF; have HLX := Lib.hid hlx; have HLF := Lib.hid hlf; have HG1 := Lib.hid hg1
      clear hO hs1 hF hlx hlf hg1 htab
      go_wp2_with (first
        | (go_at_call 136; refine HF.out.mono ?_; rintro e2 w2 ⟨rfl, hgb, hg2, hs2⟩)
        | go_in)
      have hrg2 := hrg1.kept hg2 (by simp) (by simp)
      have hou2 := hou1.kept hg2 (by simp)
      have hgB2 := bel_grownB0 hgB hg2
      have HS2 := Lib.hid hs2; have HGB := Lib.hid hgb
      have hgne : w1.heap.size ≠ w.heap.size := by omega
      have hglt : w1.heap.size < w2.heap.size := by omega
      clear hs2 hg2 hgb hrg1 hou1
      go_loopw [19, 7] (fun i _ wr => ∃ (j : Nat) (D2 : DataW Value), j ≤ (Lib.fieldsB x).length ∧ i = .int .i64 j ∧ TabRel2 w w2 b n D es x c wr left (fun z => left z && !z.sameKey (keyS x)) cnt1 m D2 j)
        (fun i _ _ => (Lib.fieldsB x).length - (intOf i).toNat)
      case atStart => exact ⟨0, D', Nat.zero_le _, rfl, hrg2, hou2, by rw [List.take_zero, withs_nil]; exact HO.out, World.grownBy.refl _ _⟩
      case round =>
        obtain ⟨j, D2, hj, rfl, hrg3, hou3, hO3, hg3⟩ := hrel
        clear hrg2 hou2
        have HO3 := Lib.hid hO3
        clear hO3
        have hgB3 := bel_grownB hgB2 hg3 (Nat.le_refl _)
        by_cases hlt2 : j < (Lib.fieldsB x).length
        · obtain ⟨nm, hnm⟩ : ∃ nm, nm = (Lib.fieldsB x).getD j n_empty := ⟨_, rfl⟩
          have hnm2 : nm = (Lib.fieldsB x)[j] := by rw [hnm, List.getD_eq_getElem?_getD, List.getElem?_eq_getElem hlt2]; rfl
          have hcell : wr.cell? ⟨w1.heap.size, j, none⟩ = some (.string nm) := by
            rw [World.cell?_of_block (a := ⟨w1.heap.size, j, none⟩) (hg3.block _ hglt (fun e => hgne (Option.some.inj e))), blk_cell HGB.out, hnm2]
            simp [List.getElem?_map, hlt2]
          have hshort : nm.size ≤ maxLen := by
            have := hpl.short _ he nm (by rw [hnm2]; exact List.getElem_mem hlt2)
            unfold maxLen
            omega
          have HK := Lib.hid (Go.WideMaps.keyOf_string_mk (s := nm) Tryz.underlying9 hshort)
          have hmj : m + j < maxLen := by unfold maxLen; omega
          have HP := Lib.hid (HO3.out.put nm)
          have HT : Hid ((Lib.fieldsB x).take (j + 1) = (Lib.fieldsB x).take j ++ [nm]) := by
            rw [hnm2]; exact List.take_succ_eq_append_getElem hlt2
          clear hnm hnm2 hshort
          go_wp2_with (first
            | (at_mapUpdate; refine wpList_mapUpdate_own _ rfl _ _ _ 65 rfl 9 64 keysL Tryz.underlying65 heldR w.heap.size (m + j) D2 rfl hou3 hmj _ _ _ rfl rfl HK.out (.held c) [] rfl ?_; intro w4 hou4 hg4)
            | go_in)
          go_roundw
          case rel =>
            have h5 := HP.out
            rw [← HT.out] at h5
            exact ⟨j + 1, D2.put (keyS nm) (.held c), by omega, by go_num, hrg3.kept hg4 (by simp [hbB]) (by simp), hou4, h5, hg3.andThen hg4 (fun q hq => .inr hq)⟩
          case measure => simp [intOf]; omega
        · go_wp2
          go_roundw
          case rel =>
            have hjl : j = (Lib.fieldsB x).length := by omega
            have h6 := HO3.out
            rw [hjl, List.take_of_length_le (Nat.le_refl _)] at h6
            have h7 := hit_more hpl.apart he (fun k => !left (keyS k)) (by simp [HLX.out])
            rw [h7] at h6
            have h8 : (hitOf es fun k => !left (keyS k) || k == x) = hitOf es fun k => !(left (keyS k) && !(keyS k).sameKey (keyS x)) := hit_congr fun e _ => by rw [sameKey_keyS]; cases left (keyS e.1) <;> cases (e.1 == x) <;> rfl
            exact ⟨_, cnt1, m + j, D2, hrg3, hou3, h8 ▸ h6, by omega, hgB3, fun kl hkl => HLF.out kl (by simp at hkl; exact hkl.1), by have := hg3.size; omega⟩
          case measure => rw [hrg3.left_eq, hrg.left_eq]; exact hlt
end Go.Proofs.YtgaebaokcjhcdaaGreatDoor

/- Tables of rules: the rows as they are laid; closures for items. -/
set_option linter.unusedVariables false
set_option linter.unusedSimpArgs false
namespace Go.Proofs.YtgaebaokcjhcdaaGreatDoor
open Go.RowKit Lz Go.Maps

theorem wpList_insert_own {H : Type} {P : Program} (w : World) {ops : Array Oper} {rest : List Oper} {o : Oper} {a : Act} {Q : Exit → Act → World → Prop}
    (hg : o.guard = none) (m x v : Operand) (t : TypeId) (hop : o.op = Op.insert t m x v)
    (k e : TypeId) (K : Keyed P k) (ht : P.underlying t = some (.map k e)) (R : Value → Option (DataW H × List MemPlace)) (b n : Nat) (D : DataW H)
    (hm : a.eval m = .map (some b)) (hown : w.ownsMap P k R b n D) (hn : n < maxLen) (key val : Value) (kl : Lit) (hx : a.eval x = key) (hv : a.eval v = val) (hkey : keyOf P k key = some kl)
    (d : DataW H) (ps : List MemPlace) (hval : R val = some (d, ps))
    (hK : ∀ w', w'.ownsMap P k R b (n + 1) (D.put kl d) → w.grownBy w' (some b) → wpList P ops Q rest (a.put o.dst undef) w') :
    wpList P ops Q (o :: rest) a w := by
  refine wpList_plain hg fun K' hK' => ?_
  obtain ⟨w', hrun, r1, r2⟩ := hown.update K ht hn hkey hval
  unfold Oper.wp
  simp [execOp, hop, hm, hx, hv, hrun, Result.andThen]
  exact hK' _ _ (hK w' r1 r2)

/-! ### rows, laid one by one -/
theorem RowsOK.start : RowsOK (.map []) [] := ⟨fun kl h => by simp [Maps.has] at h, (fun e h => by cases h), Nat.le_refl _⟩
theorem RowsOK.put {D : DataW Value} {es : List (Str × Value)} (h : RowsOK D es) (ht : Maps.Tidy D) {x : Str} (v : Value) (hx : ∀ e ∈ es, e.1 ≠ x) : RowsOK (D.put (keyS x) (.held v)) (es ++ [(x, v)]) := by
  have hno : Maps.has D (keyS x) = false := by
    cases hh : Maps.has D (keyS x)
    · rfl
    · obtain ⟨e, he, hk⟩ := h.only _ hh
      exact absurd (keyS_inj hk).symm (hx e he)
  refine ⟨fun kl hkl => ?_, fun e he => ?_, ?_⟩
  · by_cases hk : kl = keyS x
    · exact ⟨(x, v), by simp, hk⟩
    · rw [Maps.has_put_other hk] at hkl
      obtain ⟨e, he, hk⟩ := h.only _ hkl
      exact ⟨e, by simp [he], hk⟩
  · rcases List.mem_append.1 he with he | he
    · have hne : keyS e.1 ≠ keyS x := fun hk => hx e he (keyS_inj hk)
      rw [Maps.has_put_other hne]
      exact ⟨(h.all e he).1, fun z => by rw [Maps.atKey_put_other hne]; exact (h.all e he).2 z⟩
    · simp at he
      subst he
      exact ⟨Maps.has_put_same ht.isMap (keyS_isKey _) _, fun z => Maps.atKey_put_same ht.isMap (keyS_isKey _) _ _⟩
  · rw [Maps.size_put ht, hno]
    have := h.size
    simp; omega
theorem rowsOK_fold : ∀ (rest done : List (Str × Value)) (D : DataW Value), RowsOK D done → Maps.Tidy D → apartRows rest → (∀ e ∈ done, ∀ e' ∈ rest, e.1 ≠ e'.1) → RowsOK (rest.foldl (fun D e => D.put (keyS e.1) (.held e.2)) D) (done ++ rest)
  | [], done, D, h, _, _, _ => by simpa using h
  | e :: r, done, D, h, ht, ha, hd => by
    have h1 := h.put ht e.2 (x := e.1) (fun e' he' => hd e' he' e (by simp))
    have := rowsOK_fold r (done ++ [e]) _ h1 (ht.put (keyS_isKey _) _) ha.2 (fun e1 he1 e2 he2 => by
      rcases List.mem_append.1 he1 with he1 | he1
      · exact hd e1 he1 e2 (by simp [he2])
      · simp at he1
        subst he1
        exact ((ha.1 e2 he2).1).symm)
    simpa using this
theorem rowsOK_of {es : List (Str × Value)} (ha : apartRows es) : RowsOK (es.foldl (fun D e => D.put (keyS e.1) (.held e.2)) (.map [])) es :=
  rowsOK_fold es [] _ .start Maps.tidy_empty ha (fun e he => by cases he)

/-! ### asked of the names alone -/
def apartB : List Str → Bool
  | [] => true
  | e :: r => (r.all fun e' => e' != e && (Lib.fieldsB e).all fun x => !(Lib.fieldsB e').contains x) && apartB r
def plainB (l : List Str) : Bool := apartB l && decide (l.length ≤ 60) && l.all fun e => decide (e.size < 4294967281) && (e.data.toList.all fun b => decide (b.toNat < 128)) && decide ((Lib.fieldsB e).length ≤ 60) && (Lib.fieldsB e).all fun x => decide (x.size ≤ 1000000)
theorem apart_of : ∀ (es : List (Str × Value)), apartB (es.map (·.1)) = true → apartRows es
  | [], _ => trivial
  | e :: r, h => by
    simp only [List.map_cons, apartB, Bool.and_eq_true, List.all_eq_true, List.mem_map] at h
    refine ⟨fun e' he' => ?_, apart_of r h.2⟩
    have h1 := h.1 e'.1 ⟨e', he', rfl⟩
    refine ⟨by simpa using h1.1, fun x hx => ?_⟩
    have := h1.2 x hx
    simpa using this
theorem plain_of {es : List (Str × Value)} (h : plainB (es.map (·.1)) = true) : Plain64 es := by
  simp only [plainB, Bool.and_eq_true, decide_eq_true_eq, List.all_eq_true, List.mem_map, List.length_map] at h
  obtain ⟨⟨h1, h2⟩, h3⟩ := h
  have g : ∀ e ∈ es, _ := fun e he => h3 e.1 ⟨e, he, rfl⟩
  exact { apart := apart_of es h1, len := h2, size := fun e he => (g e he).1.1.1, ascii := fun e he j b hb => (g e he).1.1.2 b (List.mem_of_getElem? hb), names := fun e he => (g e he).1.2, short := fun e he x hx => (g e he).2 x hx }

/-! ### closures -/
theorem al_facts (w : World) (o : Obj) : w.grownBy (w.alloc o) none ∧ (w.alloc o).heap[w.heap.size]? = some o ∧ (w.alloc o).heap.size = w.heap.size + 1 := ⟨World.grownBy_alloc w o none, heap_alloc_new w o, by simp⟩
theorem item_c (w : World) (A : Option Addr) (m c : Nat) :
    Calls Tryz.prog 75 #[.slice A m c] w fun e w' => e = .returned (.func (.func 143) #[] #[.pointer (some ⟨w.heap.size, 0, none⟩)]) ∧ w.grownBy w' none ∧ w'.heap[w.heap.size]? = some (.cells #[.slice A m c] 40 (0, 0)) ∧ w'.heap.size = w.heap.size + 1 := by
  have hmf : ∀ (fn : Fn) (first cap : Array Value) (w : World), (Instr.makeFunc fn first cap).run Tryz.prog w = .ok (.func fn first cap) w := fun _ _ _ _ => rfl
  go_enter Tryz.func75, Tryz.ntmps75
  go_wp2
  go_ret
  exact ⟨rfl, al_facts _ _⟩
theorem endItem_c (w : World) (n : Int) :
    Calls Tryz.prog 98 #[.int .i64 n] w fun e w' => e = .returned (.func (.func 156) #[] #[.pointer (some ⟨w.heap.size, 0, none⟩)]) ∧ w.grownBy w' none ∧ w'.heap[w.heap.size]? = some (.cells #[.int .i64 n] 3 (0, 0)) ∧ w'.heap.size = w.heap.size + 1 := by
  have hmf : ∀ (fn : Fn) (first cap : Array Value) (w : World), (Instr.makeFunc fn first cap).run Tryz.prog w = .ok (.func fn first cap) w := fun _ _ _ _ => rfl
  go_enter Tryz.func98, Tryz.ntmps98
  go_wp2
  go_ret
  exact ⟨rfl, al_facts _ _⟩
end Go.Proofs.YtgaebaokcjhcdaaGreatDoor
