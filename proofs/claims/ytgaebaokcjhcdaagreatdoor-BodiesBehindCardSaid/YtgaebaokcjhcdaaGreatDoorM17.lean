/- The law BodiesNone, walked. -/
import Derived.Test.YtgaebaokcjhcdaaGreatDoorM16
import Derived.Test.YtgaebaokcjhcdaaGreatDoorRows
import Derived.Deep.DeepHandedRow
import Derived.ProofKit
import Derived.LaidMore
import Derived.OpenShut
import Derived.Deep.Fields
import Derived.Lib.LaidTab

set_option linter.unusedVariables false
set_option linter.unusedSimpArgs false
namespace Go.Proofs.YtgaebaokcjhcdaaGreatDoor
open Go.RowKit Lz

/-- A builder that is none: nil, or one without an arena. -/
def NoB (w : World) (v : Value) : Prop := v = .pointer none ∨ ∃ q, v = .pointer (some ⟨q, 0, none⟩) ∧ q < w.heap.size ∧ w.cell? ⟨q, 0, none⟩ = some (.pointer none)
theorem NoB.bel {w w' : World} {v : Value} (h : NoB w v) (hb : Bel w w') : NoB w' v := by
  rcases h with h | ⟨q, h1, h2, h3⟩
  · exact .inl h
  · exact .inr ⟨q, h1, Nat.lt_of_lt_of_le h2 hb.size, (hb.cell (p := ⟨q, 0, none⟩) h2).trans h3⟩
theorem noneNo_c (w : World) (v : Value) (h : NoB w v) : Calls Tryz.prog 44 #[v] w fun e w' => e = .returned (.bool true) ∧ w = w' := by
  rcases h with rfl | ⟨q, rfl, h2, h3⟩
  · go_enter Tryz.func44, Tryz.ntmps44
    go_wp2
    go_ret
    exact ⟨rfl, rfl⟩
  · go_enter Tryz.func44, Tryz.ntmps44
    go_wp2
    go_ret
    exact ⟨rfl, rfl⟩
theorem arenaNo_c (w : World) (v : Value) (h : NoB w v) : Calls Tryz.prog 17 #[v] w fun e w' => e = .returned (.pointer none) ∧ w = w' := by
  have HN := Lib.hid (noneNo_c w v h)
  clear h
  go_enter Tryz.func17, Tryz.ntmps17
  go_wp2_with (go_at_call 44; refine HN.out.mono ?_; rintro e w' ⟨rfl, rfl⟩)
  go_ret
  exact ⟨rfl, rfl⟩
abbrev tokG (k : Int) (n x : Str) (A : Option Addr) (m c : Nat) (d s q : Bool) (f t : Int) : Value := .agg #[.int .i64 k, .string n, .string x, .slice A m c, .bool d, .bool s, .bool q, .int .i64 f, .int .i64 t]
theorem stepNo_c (w : World) (v : Value) (h : NoB w v) (k : Int) (n x : Str) (A : Option Addr) (m c : Nat) (d s q : Bool) (f t : Int) : Calls Tryz.prog 8 #[v, tokG k n x A m c d s q f t] w fun e w' => e = .returned (.bool false) ∧ Bel w w' := by
  have HN := Lib.hid (fun W (hW : Bel w W) => arenaNo_c W v (h.bel hW))
  clear h
  go_enter Tryz.func8, Tryz.ntmps8
  go_wp2_with (go_at_call 17; refine (HN.out _ (bel_alloc _ _)).mono ?_; rintro e w' ⟨rfl, rfl⟩)
  go_ret
  exact ⟨rfl, bel_alloc _ _⟩
theorem bodyNo_c (w : World) (v : Value) (h : NoB w v) (k : Int) (n x : Str) (A : Option Addr) (m c : Nat) (d s q : Bool) (f t : Int) : Calls Tryz.prog 9 #[v, tokG k n x A m c d s q f t] w fun e w' => e = .returned (.bool false) ∧ Bel w w' := by
  have HN := Lib.hid (fun W (hW : Bel w W) => arenaNo_c W v (h.bel hW))
  clear h
  go_enter Tryz.func9, Tryz.ntmps9
  go_wp2_with (go_at_call 17; refine (HN.out _ (bel_alloc _ _)).mono ?_; rintro e w' ⟨rfl, rfl⟩)
  go_ret
  exact ⟨rfl, bel_alloc _ _⟩
def noW (w : World) (k : Int) (n x : Str) (A : Option Addr) (m c : Nat) (d s q : Bool) (f t : Int) : World :=
  ((w.alloc (.cells #[.int .i64 k, .string n, .string x, .slice A m c, .bool d, .bool s, .bool q, .int .i64 f, .int .i64 t] 24 (0, 0))).alloc
    (.cells #[.pointer none, .pointer none, .pointer none, .int .i64 0, .int .i64 0, .slice none 0 0, .int .i64 0, .int .i64 0, .bool false, .bool false, .bool false, .string ⟨#[]⟩, .pointer none, .nilIface] 34 (0, 0))).alloc
    (.cells #[.pointer none, .pointer (some ⟨w.heap.size + 1, 0, none⟩)] 25 (0, 0))
theorem noW_box (w : World) (k : Int) (n x : Str) (A : Option Addr) (m c : Nat) (d s q : Bool) (f t : Int) : ∀ j, (noW w k n x A m c d s q f t).cell? ⟨w.heap.size, j, none⟩ = (#[.int .i64 k, .string n, .string x, .slice A m c, .bool d, .bool s, .bool q, .int .i64 f, .int .i64 t] : Array Value)[j]? := fun j => by
  refine blk_cell (t := 24) (fr := (0, 0)) ?_ j
  unfold noW
  rw [Below.heap_alloc _ _ _ (by simp; omega), Below.heap_alloc _ _ _ (by simp)]
  exact heap_alloc_new w _
theorem noW_no (w : World) (k : Int) (n x : Str) (A : Option Addr) (m c : Nat) (d s q : Bool) (f t : Int) : NoB (noW w k n x A m c d s q f t) (.pointer (some ⟨w.heap.size + 1, 0, none⟩)) := by
  refine .inr ⟨_, rfl, by simp [noW], ?_⟩
  have h : (noW w k n x A m c d s q f t).heap[w.heap.size + 1]? = some (.cells #[.pointer none, .pointer none, .pointer none, .int .i64 0, .int .i64 0, .slice none 0 0, .int .i64 0, .int .i64 0, .bool false, .bool false, .bool false, .string ⟨#[]⟩, .pointer none, .nilIface] 34 (0, 0)) := by
    unfold noW
    rw [Below.heap_alloc _ _ _ (by simp)]
    exact heap_alloc2_new w _ _
  exact blk_cell h 0
theorem noW_row (w : World) (k : Int) (n x : Str) (A : Option Addr) (m c : Nat) (d s q : Bool) (f t : Int) : (noW w k n x A m c d s q f t).cell? ⟨w.heap.size + 1 + 1, 0, none⟩ = some (.pointer none) ∧ (noW w k n x A m c d s q f t).cell? ⟨w.heap.size + 1 + 1, 1, none⟩ = some (.pointer (some ⟨w.heap.size + 1, 0, none⟩)) := by
  have h : (noW w k n x A m c d s q f t).heap[w.heap.size + 1 + 1]? = some (.cells #[.pointer none, .pointer (some ⟨w.heap.size + 1, 0, none⟩)] 25 (0, 0)) := by
    unfold noW
    have := heap_alloc_new ((w.alloc (.cells #[.int .i64 k, .string n, .string x, .slice A m c, .bool d, .bool s, .bool q, .int .i64 f, .int .i64 t] 24 (0, 0))).alloc (.cells #[.pointer none, .pointer none, .pointer none, .int .i64 0, .int .i64 0, .slice none 0 0, .int .i64 0, .int .i64 0, .bool false, .bool false, .bool false, .string ⟨#[]⟩, .pointer none, .nilIface] 34 (0, 0))) (.cells #[.pointer none, .pointer (some ⟨w.heap.size + 1, 0, none⟩)] 25 (0, 0))
    simpa using this
  exact ⟨blk_cell h 0, blk_cell h 1⟩
theorem Below.boxAt {a b : World} (h : Bel a b) {p : Nat} (hp : p < a.heap.size) : ∀ j, b.cell? ⟨p, j, none⟩ = a.cell? ⟨p, j, none⟩ := fun j => h.cell (p := ⟨p, j, none⟩) hp
set_option maxRecDepth 100000 in
set_option maxHeartbeats 4000000 in
theorem bodiesNone_c (w : World) (hB : Base w) (k : Int) (n x : Str) (A : Option Addr) (m c : Nat) (d s q : Bool) (f t : Int) :
    Calls Tryz.prog 3 #[tokG k n x A m c d s q f t] w fun e w' => e = .returned (.bool true) ∧ Bel w w' := by
  have HB := Lib.hid hB
  clear hB
  go_enter Tryz.func3, Tryz.ntmps3
  go_wp2
  have hW : Bel w (noW w k n x A m c d s q f t) := bel_al (bel_al (bel_alloc _ _))
  have B0 := noW_box w k n x A m c d s q f t
  have hq : NoB (noW w k n x A m c d s q f t) (.pointer (some ⟨w.heap.size + 1, 0, none⟩)) := noW_no w k n x A m c d s q f t
  have S0 := (noW_row w k n x A m c d s q f t).1
  have S1 := (noW_row w k n x A m c d s q f t).2
  have hs1 : w.heap.size < (noW w k n x A m c d s q f t).heap.size := by simp [noW]; omega
  have hs2 : w.heap.size + 1 + 1 < (noW w k n x A m c d s q f t).heap.size := by simp [noW]
  show Code.wp _ _ _ _ (noW w k n x A m c d s q f t)
  have HW := Lib.hid hW; have HQ := Lib.hid hq; have HB0 := Lib.hid B0; have HS0 := Lib.hid S0; have HS1 := Lib.hid S1
  clear hW hq B0 S0 S1
  generalize noW w k n x A m c d s q f t = W at *
  go_loopw [9] (fun y wr => ∃ j : Nat, j ≤ 2 ∧ y = .int .i64 j ∧ Bel W wr) (fun y _ => 2 - (intOf y).toNat)
  case atStart => exact ⟨0, by omega, rfl, Below.refl _ _⟩
  case round =>
    obtain ⟨j, hj, rfl, hb⟩ := hrel
    have q0 := (hb.cell (p := ⟨w.heap.size, 0, none⟩) hs1).trans (HB0.out 0); have q1 := (hb.cell (p := ⟨w.heap.size, 1, none⟩) hs1).trans (HB0.out 1); have q2 := (hb.cell (p := ⟨w.heap.size, 2, none⟩) hs1).trans (HB0.out 2); have q3 := (hb.cell (p := ⟨w.heap.size, 3, none⟩) hs1).trans (HB0.out 3); have q4 := (hb.cell (p := ⟨w.heap.size, 4, none⟩) hs1).trans (HB0.out 4); have q5 := (hb.cell (p := ⟨w.heap.size, 5, none⟩) hs1).trans (HB0.out 5); have q6 := (hb.cell (p := ⟨w.heap.size, 6, none⟩) hs1).trans (HB0.out 6); have q7 := (hb.cell (p := ⟨w.heap.size, 7, none⟩) hs1).trans (HB0.out 7); have q8 := (hb.cell (p := ⟨w.heap.size, 8, none⟩) hs1).trans (HB0.out 8)
    simp only [List.getElem?_toArray, List.getElem?_cons_succ, List.getElem?_cons_zero] at q0 q1 q2 q3 q4 q5 q6 q7 q8
    have s0 := (hb.cell (p := ⟨w.heap.size + 1 + 1, 0, none⟩) hs2).trans HS0.out
    have s1 := (hb.cell (p := ⟨w.heap.size + 1 + 1, 1, none⟩) hs2).trans HS1.out
    have hbl : w.heap.size < wr.heap.size := Nat.lt_of_lt_of_le hs1 hb.size
    rcases (show j = 0 ∨ j = 1 ∨ j = 2 by omega) with rfl | rfl | rfl
    · have HN : Hid (∀ W', Bel wr W' → NoB W' (.pointer none)) := fun W' _ => .inl rfl
      go_wp2_with (first | (go_at_call 8; refine (stepNo_c _ _ (HN.out _ (Below.refl _ _)) _ _ _ _ _ _ _ _ _ _ _).mono ?_; rintro e w1 ⟨rfl, hb1⟩; have hbx := Below.boxAt hb1 hbl) | (go_at_call 9; refine (bodyNo_c _ _ (HN.out _ hb1) _ _ _ _ _ _ _ _ _ _ _).mono ?_; rintro e w2 ⟨rfl, hb2⟩))
      go_roundw
      case rel => exact ⟨1, by omega, by go_num, bel_tr hb (bel_tr hb1 hb2)⟩
      case measure => simp [intOf]
    · have HN : Hid (∀ W', Bel wr W' → NoB W' (.pointer (some ⟨w.heap.size + 1, 0, none⟩))) := fun W' h => HQ.out.bel (bel_tr hb h)
      go_wp2_with (first | (go_at_call 8; refine (stepNo_c _ _ (HN.out _ (Below.refl _ _)) _ _ _ _ _ _ _ _ _ _ _).mono ?_; rintro e w1 ⟨rfl, hb1⟩; have hbx := Below.boxAt hb1 hbl) | (go_at_call 9; refine (bodyNo_c _ _ (HN.out _ hb1) _ _ _ _ _ _ _ _ _ _ _).mono ?_; rintro e w2 ⟨rfl, hb2⟩))
      go_roundw
      case rel => exact ⟨2, by omega, by go_num, bel_tr hb (bel_tr hb1 hb2)⟩
      case measure => simp [intOf]
    · have HST := Lib.hid (stands_c wr ((HB.out.bel HW.out).bel hb))
      go_wp2_with (go_at_call 10; refine HST.out.mono ?_; rintro e w1 ⟨rfl, hb1⟩)
      go_ret
      exact ⟨rfl, bel_tr HW.out (bel_tr hb hb1)⟩
end Go.Proofs.YtgaebaokcjhcdaaGreatDoor

/- The row of BodiesNone: what the condition gives the walk, the argument opened, the wrap. -/
set_option linter.unusedVariables false
set_option linter.unusedSimpArgs false
namespace Go.Proofs.YtgaebaokcjhcdaaGreatDoor
open Go.ChangeShapes Go.WideShapes Go.ChangeAt Go.RowKit Go.Deep Lz

theorem rowOwn : ownKnob Tryz.prog.godebug = none := by kernel_rfl
theorem rowLaidOut : laidOutB Tryz.prog = true := by kernel_rfl
theorem gHeads : Tryz.prog.globalNamed "lazaret/bodies.headings" = some 0 := by kernel_rfl
theorem gSpace : Tryz.prog.globalNamed "strings.asciiSpace" = some 1 := by kernel_rfl
theorem gScopes : Tryz.prog.globalNamed "lazaret/kinds.scopes" = some 4 := by kernel_rfl
theorem tHeads : (Tryz.prog.globals[0]?).map (·.type) = some 40 := by kernel_rfl
theorem tSpace : (Tryz.prog.globals[1]?).map (·.type) = some 140 := by kernel_rfl
theorem tScopes : (Tryz.prog.globals[4]?).map (·.type) = some 192 := by kernel_rfl
/-- The variables whose content the row lists. -/
def rowLaid : List (String × DataW Unit) := [("unicode.White_Space", Rows.laid_unicode_White_Space), ("strings.asciiSpace", Rows.laid_strings_asciiSpace), ("lazaret/kinds.scopes", Rows.laid_lazaret_kinds_scopes), ("lazaret/builder.by", Rows.laid_lazaret_builder_by), ("lazaret/bodies.headings", Rows.laid_lazaret_bodies_headings)]
theorem asciiTab : (Rows.laid_strings_asciiSpace : DataW Unit) = Lib.tabData .u8 Lib.asciiSpaceTab := by kernel_rfl
theorem bytes_eq {s t : ByteArray} (h : s.data.toList = t.data.toList) : s = t := by
  cases s; cases t
  simp only [ByteArray.mk.injEq]
  exact Array.toList_inj.1 h
theorem var_cells {W : World} {name : String} {g : Nat} {cs : Array Value} (hg : Tryz.prog.globalNamed name = some g) (hv : W.var? Tryz.prog name = some cs) (i : Nat) : W.cell? ⟨g, i, none⟩ = cs[i]? := World.var?_cell hg hv i
/-- What the condition and the world's shape give the walk. -/
theorem base_of_laid {W : World} (h : laidMetH Tryz.prog rowLaid W) (hsh : W.ShapedOpen Tryz.prog) : Base W := by
  have hsz : 6 ≤ W.heap.size := by
    obtain ⟨m, hm⟩ := Tryz.laysM144.s1_3 W hsh
    rcases Nat.lt_or_ge 5 W.heap.size with h' | h'
    · exact h'
    · have hm' : W.cell? ⟨5, 0, none⟩ = some (.int .i64 m) := hm
      simp [World.cell?, Array.getElem?_eq_none h'] at hm'
  rw [MakeChecks.laidMetH_plain _ _ _ (by kernel_rfl)] at h
  obtain ⟨ps, ⟨_, _, _, _, _, _, _, _, _, _, ⟨g1, t1, cs1, f1, p1, q1, hg1, ht1, hv1, hd1, ⟨g2, t2, cs2, f2, p2, q2, hg2, ht2, hv2, hd2, ⟨_, _, _, _, _, _, _, _, _, _, ⟨g4, t4, cs4, f4, p4, q4, hg4, ht4, hv4, hd4, _, _⟩, _⟩, _⟩, _⟩, _⟩, _, _⟩ := h
  obtain rfl := Option.some.inj (gSpace.symm.trans hg1)
  obtain rfl := Option.some.inj (tSpace.symm.trans ht1)
  obtain rfl := Option.some.inj (gScopes.symm.trans hg2)
  obtain rfl := Option.some.inj (tScopes.symm.trans ht2)
  obtain rfl := Option.some.inj (gHeads.symm.trans hg4)
  obtain rfl := Option.some.inj (tHeads.symm.trans ht4)
  refine ⟨⟨Tryz.laysM144.s1_3 W hsh, ?_, hsz⟩, ⟨?_, ?_, hsz⟩⟩
  · obtain ⟨xs, m1, rfl, hx1, hlen, hn, hel⟩ := DataW.trod_array Tryz.underlying192 hd2
    have c9 : Tryz.prog.cellsOf 9 = 1 := by kernel_rfl
    have c192 : Tryz.prog.cellsOf 192 = 4 := by kernel_rfl
    simp only [Prod.mk.injEq, Rows.laid_lazaret_kinds_scopes, DataW.agg.injEq] at hx1
    intro i hi
    rw [var_cells gScopes hv2 i]
    have h0 := hel i hi
    rw [c9, Nat.mul_one] at h0
    have hxl := congrArg List.length hx1.1
    rw [List.length_map] at hxl
    have hxi : i < xs.length := by rw [hn]; exact hi
    rw [List.getElem?_eq_getElem hxi] at h0
    obtain ⟨s, e1, e2, _⟩ := DataW.trod_string Tryz.underlying9 h0
    have hcs : cs2[i]? = some (.string s) := by
      have := congrArg (fun l : List Value => l[0]?) e1
      simpa [List.getElem?_take, List.getElem?_drop] using this
    rw [hcs]
    have hy := congrArg (fun l : List (DataW Unit) => l[i]?) hx1.1
    simp only [List.getElem?_map, List.getElem?_eq_getElem hxi, Option.map_some, e2] at hy
    have hs : s = scopes (i : Int) := by
      apply bytes_eq
      match i, hi, hy with
      | 0, _, hy => exact (Lit.string.inj (DataW.lit.inj (Option.some.inj hy))).symm.trans rfl
      | 1, _, hy => exact (Lit.string.inj (DataW.lit.inj (Option.some.inj hy))).symm.trans rfl
      | 2, _, hy => exact (Lit.string.inj (DataW.lit.inj (Option.some.inj hy))).symm.trans rfl
      | 3, _, hy => exact (Lit.string.inj (DataW.lit.inj (Option.some.inj hy))).symm.trans rfl
    rw [hs]
  · unfold Lib.TabIs
    rw [hv1]
    have hd1' := hd1
    rw [asciiTab] at hd1'
    have := Lib.cells_of_tab Tryz.underlying140 Tryz.underlying5 (by kernel_rfl) (by kernel_rfl) hd1'
    rw [← this]
  · obtain ⟨a, cap, e1, hle, hat⟩ := open_row Tryz.underlying40 (by kernel_rfl) hd4
    have hc0 : W.cell? ⟨0, 0, none⟩ = some (.slice (some a) 6 cap) := by
      rw [var_cells gHeads hv4 0, Array.eq_one_of_toList e1]
      rfl
    have hcell : ∀ i, i < 6 → W.cell? (a.add i) = some (.string (n_heads.getD i n_empty)) := by
      intro i hi
      match i, hi with
      | 0, _ => obtain ⟨v, n, q, h1, h2⟩ := hat 0 _ rfl
                obtain ⟨s, e, e2, _⟩ := DataW.trod_string Tryz.underlying9 h2
                simp only [List.cons.injEq, and_true] at e
                rw [h1, e, show s = n_h1 from bytes_eq (by simp [n_h1] at e2 ⊢; exact e2.1.symm)]; rfl
      | 1, _ => obtain ⟨v, n, q, h1, h2⟩ := hat 1 _ rfl
                obtain ⟨s, e, e2, _⟩ := DataW.trod_string Tryz.underlying9 h2
                simp only [List.cons.injEq, and_true] at e
                rw [h1, e, show s = n_h2 from bytes_eq (by simp [n_h2] at e2 ⊢; exact e2.1.symm)]; rfl
      | 2, _ => obtain ⟨v, n, q, h1, h2⟩ := hat 2 _ rfl
                obtain ⟨s, e, e2, _⟩ := DataW.trod_string Tryz.underlying9 h2
                simp only [List.cons.injEq, and_true] at e
                rw [h1, e, show s = n_h3 from bytes_eq (by simp [n_h3] at e2 ⊢; exact e2.1.symm)]; rfl
      | 3, _ => obtain ⟨v, n, q, h1, h2⟩ := hat 3 _ rfl
                obtain ⟨s, e, e2, _⟩ := DataW.trod_string Tryz.underlying9 h2
                simp only [List.cons.injEq, and_true] at e
                rw [h1, e, show s = n_h4 from bytes_eq (by simp [n_h4] at e2 ⊢; exact e2.1.symm)]; rfl
      | 4, _ => obtain ⟨v, n, q, h1, h2⟩ := hat 4 _ rfl
                obtain ⟨s, e, e2, _⟩ := DataW.trod_string Tryz.underlying9 h2
                simp only [List.cons.injEq, and_true] at e
                rw [h1, e, show s = n_h5 from bytes_eq (by simp [n_h5] at e2 ⊢; exact e2.1.symm)]; rfl
      | 5, _ => obtain ⟨v, n, q, h1, h2⟩ := hat 5 _ rfl
                obtain ⟨s, e, e2, _⟩ := DataW.trod_string Tryz.underlying9 h2
                simp only [List.cons.injEq, and_true] at e
                rw [h1, e, show s = n_h6 from bytes_eq (by simp [n_h6] at e2 ⊢; exact e2.1.symm)]; rfl
    obtain ⟨g, o, sp⟩ := a
    have hsp : sp = none := by simpa [Addr.add] using World.cell?_spot (hcell 0 (by decide))
    subst hsp
    exact ⟨g, o, cap, hc0, fun i hi => by
      have := hcell i hi
      unfold Addr.add at this
      by_cases h0 : i = 0
      · subst h0; simpa using this
      · simpa [h0] using this⟩

set_option maxRecDepth 100000 in
/-- A token by value, opened. -/
theorem open_token {H : Type} {enc : TypeId × Value → H} {W : World} {b0 : Nat} {sp : Nat → Bool} {held : Bool} {v : Value} {dd : DataW H} {pp : List MemPlace}
    (hv : Value.okWide Tryz.prog W .any b0 24 v) (h : DataW.Trod enc Tryz.prog W 0 sp held 24 v dd pp) :
    ∃ (k : Int) (n x : Str) (A : Option Addr) (m c : Nat) (d s q : Bool) (f t : Int), v = tokG k n x A m c d s q f t := by
  obtain ⟨cs, rfl, hsz⟩ := okWide_struct Tryz.underlying24 hv
  obtain ⟨fuel, hf⟩ := h
  obtain ⟨xs, m, _, hx, _, hlen, hg⟩ := DataW.trod_struct Tryz.underlying24 hf
  obtain ⟨l⟩ := cs
  have c24 : Tryz.prog.cellsOf 24 = 9 := by kernel_rfl
  match l, hsz.trans c24, xs, hlen, hg with
  | [c0, c1, c2, c3, c4, c5, c6, c7, c8], _, [y0, y1, y2, y3, y4, y5, y6, y7, y8], _, hg =>
    have k0 : Tryz.prog.cellsOf 3 = 1 := by kernel_rfl
    have k1 : Tryz.prog.cellsOf 9 = 1 := by kernel_rfl
    have k3 : Tryz.prog.cellsOf 22 = 1 := by kernel_rfl
    have k4 : Tryz.prog.cellsOf 4 = 1 := by kernel_rfl
    obtain ⟨k, e0, _⟩ := DataW.trod_int Tryz.underlying3 (show DataW.trod enc _ W 0 sp held m 3 [c0] = some y0 by simpa [Value.cells, k0] using hg 0 _ rfl)
    obtain ⟨n, e1, _⟩ := DataW.trod_string Tryz.underlying9 (show DataW.trod enc _ W 0 sp held m 9 [c1] = some y1 by simpa [Value.cells, k1] using hg 1 _ rfl)
    obtain ⟨x, e2, _⟩ := DataW.trod_string Tryz.underlying9 (show DataW.trod enc _ W 0 sp held m 9 [c2] = some y2 by simpa [Value.cells, k1] using hg 2 _ rfl)
    have h3 : DataW.trod enc Tryz.prog W 0 sp held m 22 [c3] = some y3 := by simpa [Value.cells, k3] using hg 3 _ rfl
    obtain ⟨d, e4, _⟩ := DataW.trod_bool Tryz.underlying4 (show DataW.trod enc _ W 0 sp held m 4 [c4] = some y4 by simpa [Value.cells, k4] using hg 4 _ rfl)
    obtain ⟨s, e5, _⟩ := DataW.trod_bool Tryz.underlying4 (show DataW.trod enc _ W 0 sp held m 4 [c5] = some y5 by simpa [Value.cells, k4] using hg 5 _ rfl)
    obtain ⟨q, e6, _⟩ := DataW.trod_bool Tryz.underlying4 (show DataW.trod enc _ W 0 sp held m 4 [c6] = some y6 by simpa [Value.cells, k4] using hg 6 _ rfl)
    obtain ⟨f, e7, _⟩ := DataW.trod_int Tryz.underlying3 (show DataW.trod enc _ W 0 sp held m 3 [c7] = some y7 by simpa [Value.cells, k0] using hg 7 _ rfl)
    obtain ⟨t, e8, _⟩ := DataW.trod_int Tryz.underlying3 (show DataW.trod enc _ W 0 sp held m 3 [c8] = some y8 by simpa [Value.cells, k0] using hg 8 _ rfl)
    simp only [List.cons.injEq, and_true] at e0 e1 e2 e4 e5 e6 e7 e8
    subst e0 e1 e2 e4 e5 e6 e7 e8
    have : ∃ (A : Option Addr) (mm c : Nat), c3 = .slice A mm c := by
      rcases DataW.trod_slice Tryz.underlying22 h3 with ⟨e, _⟩ | ⟨a, len, cap, _, _, _, _, e, _⟩
      · simp only [List.cons.injEq, and_true] at e; exact ⟨_, _, _, e⟩
      · simp only [List.cons.injEq, and_true] at e; exact ⟨_, _, _, e⟩
    obtain ⟨A, mm, c, rfl⟩ := this
    exact ⟨k, n, x, A, mm, c, d, s, q, f, t, rfl⟩
/-- Behind a call that turned nothing old, the row's last step. -/
theorem post_of_below {H : Type} {enc : TypeId × Value → H} {P : Program} {f : Func} {s : ChangeSpec} {apart fresh handsOn again : Bool} {W W' : World} {args : Array Value} {v : Value} {ds gs : List (DataW H)} {before pa pv : List MemPlace}
    (hW : DataW.Whole enc P f.params.toList s.vars apart W args.toList ds gs before)
    (hres : ∀ (b : Nat) (sp : Nat → Bool) (hd : Bool), DataW.TrodAll enc P W' b sp hd f.resultTypes.toList (v.resultList f.resultTypes.size) (s.fn H (ds ++ gs)).results [])
    (hargs : ∀ sp : Nat → Bool, (∀ p ∈ before, sp p.block = true) → DataW.TrodAll enc P W' 0 sp true f.params.toList args.toList (s.fn H (ds ++ gs)).args pa)
    (hvars : ∀ sp : Nat → Bool, (∀ p ∈ before, sp p.block = true) → DataW.TrodVars enc P W' sp s.vars (s.fn H (ds ++ gs)).vars pv)
    (hps : before = pa ++ pv) (hb : Below W.heap.size W W')
    (hok : ∀ (j : Nat) (t : TypeId) (r : Value), f.resultTypes[j]? = some t → (v.resultList f.resultTypes.size)[j]? = some r → Value.okWide P W' .any 0 t r) :
    s.post enc P f apart fresh handsOn again W args v W' := by
  have hlt : ∀ p ∈ before, p.block < W.heap.size := fun p hp => hW.lt p hp
  have hold : ∀ p ∈ before, (fun b => decide (b < W.heap.size)) p.block = true := fun p hp => by simpa using hlt p hp
  refine ⟨ds, gs, before, [], pa, pv, hW, hres _ _ _, hargs _ hold, hvars _ hold, World.keptBut_mono (fun p hp => ⟨hp, ?_⟩) (hb.frame (· ∈ before)), fun _ => ?_⟩
  · rw [hps, List.mem_append] at hp
    exact Or.inr hp
  · obtain ⟨_, _, _, _, _, hz, hn⟩ := hW
    refine ⟨hok, _, _, ([] ++ pa) ++ pv, ⟨[] ++ pa, pv, trodAll_append (hargs _ (fun _ _ => rfl)) (hres _ _ _), hvars _ (fun _ _ => rfl), rfl, ?_, ?_⟩, ?_⟩
    · intro b off hp
      have hin : MemPlace.cell b off ∈ before := by rw [hps]; simpa using hp
      rw [hb.frozen (hlt _ hin)]
      exact hz b off hin
    · intro ha
      have := hn ha
      rw [hps] at this
      simpa using this
    · intro p hp _
      rw [hps]
      simpa using hp

/-- The door's own heap meets the condition: closed facts. -/
theorem door_met (os : Os) (args : Array Value) : laidMetH Tryz.prog rowLaid ((World.doorLaid Tryz.prog 103 os).forCall (fun _ _ => 0) ⟨#[], args, []⟩).memory :=
  laidMetH_of_parts3 (fuel := 8) (laidMet_of_run' 8 (by kernel_rfl) (by kernel_rfl)) (by kernel_rfl) (by kernel_rfl)

set_option maxRecDepth 100000 in
theorem lifted (os : Os) (started : os.Started) (H : Type) (enc : TypeId × Value → H) :
    ReturnsInHanded {} Tryz.checked os 3 .any (fun w args => (Rows.bodiesNoneSpec.pre enc Tryz.prog Tryz.f3 [] false w args ∧ laidMetH Tryz.prog rowLaid w) ∧ sizedMet enc Tryz.prog Tryz.f3 (OpenSpec.ofChange Rows.bodiesNoneSpec) false w args)
      (Rows.bodiesNoneSpec.post enc Tryz.prog Tryz.f3 false true false false) := by
  have wit := ChangeSpec.witness_shaped (enc := enc) (C := Tryz.checked) (os := os) (f := 3) (fn := Tryz.f3) (s := Rows.bodiesNoneSpec) (conds := []) (apart := false) (X := fun w _ => laidMetH Tryz.prog rowLaid w) false (World.doorLaid Tryz.prog 103 os)
    #[.agg #[.int .i64 0, .string ⟨#[]⟩, .string ⟨#[]⟩, .slice none 0 0, .bool false, .bool false, .bool false, .int .i64 0, .int .i64 0]] 8 rfl (World.shaped_of_RefB (by kernel_rfl) (by kernel_rfl)) (by kernel_rfl) (by kernel_rfl) (by kernel_rfl) (door_met os _)
  refine returnsInHanded_of_row (C := Tryz.checked) (s := OpenSpec.ofChange Rows.bodiesNoneSpec) (F := fun _ _ _ => 0) (conds := []) (laid := rowLaid) rowOwn started (by kernel_rfl) Tryz.func3 wit ?_
  intro W base args ds gs before hval0 hW _ _ _ hL hsh _
  have hval : ∀ (j : Nat) t v, Tryz.f3.params[j]? = some t → args[j]? = some v → Value.okWide Tryz.prog W .any base t v := hval0
  have hW' := hW
  obtain ⟨p, q, hA0, hV, rfl, hfz, hnd⟩ := hW
  have hA : DataW.TrodAll enc Tryz.prog W 0 (fun _ => true) true Tryz.f3.params.toList args.toList ds p := hA0
  rw [Tryz.params3] at hA hval
  obtain ⟨v0, d0, rfl, rfl, h0⟩ := trodAll_one hA
  obtain ⟨rfl, rfl⟩ := trodVars_none hV
  obtain ⟨k, n, x, A, m, c, d, s, qu, f, t, rfl⟩ := open_token (hval 0 24 v0 rfl rfl) h0
  simp only [List.append_nil] at hW'
  have hB : Base W := base_of_laid hL hsh
  have hlt : ∀ y ∈ p, y.block < W.heap.size := fun y hy => hW'.lt y hy
  refine (bodiesNone_c W hB k n x A m c d s qu f t).mono fun e W' ⟨he, hb⟩ => ?_
  subst he
  refine ⟨_, rfl, post_of_below (pa := p) (pv := []) hW' (fun _ _ _ => trodAll_mk1 (shut_bool Tryz.underlying4 _)) (fun sp hsp => ?_) (fun _ _ => rfl) (by simp) hb (ok_one (by kernel_rfl) rfl (okWide_bool_mk Tryz.underlying4 _))⟩
  exact trodAll_mk1 (WideElems.Trod_stays rowLaidOut (by kernel_rfl) (of_decide_eq_true (by kernel_rfl)) h0 (fun y hy => hb.same (hlt y hy)) (fun y hy => hsp y hy))

theorem bodiesNone_holds : Rows.BodiesNoneSaid :=
  OpenClaim.holds_of_wide 3 Tryz.f3 rfl rfl rfl rfl rfl rfl rfl ⟨rfl, rfl, rfl, rfl, rfl⟩ rfl rfl rfl rfl rfl (by kernel_rfl) Tryz.func3 (by kernel_rfl)
    (of_decide_eq_true (by kernel_rfl)) (by unfold Func.isWrapper; first | (rw [if_pos (by decide +kernel)]; kernel_rfl) | (rw [if_neg (by decide +kernel)]; exact ⟨rfl, rfl⟩))
    (fun os started H enc _ => lifted os started H enc)
end Go.Proofs.YtgaebaokcjhcdaaGreatDoor
