/- bodies.Body: a start tag, by its rule. -/
import Derived.Test.YtgaebaokcjhcdaaGreatDoorM13
import Derived.OwnWalk

set_option linter.unusedVariables false
set_option linter.unusedSimpArgs false
namespace Go.Proofs.YtgaebaokcjhcdaaGreatDoor
open Go.RowKit Lz
variable {w0 w w' : World} {F : Nat → Prop} {b a st l n : Nat} {s s' : St}

theorem zeroRule (w : World) : (zeroValue 64).run Tryz.prog w = .ok .nilFunc w := by kernel_rfl
set_option maxRecDepth 100000 in
theorem look_of {w : World} {B m : Nat} {D : DataW Value} {f : Str → Option Value} (ho : w.ownsMap Tryz.prog 9 heldR B m D) (hO : OutIs D f) (name : Str) (hs : name.size < 1000000) :
    (Instr.lookup 65 (.map (some B)) (.string name) false).run Tryz.prog w = .ok ((f name).getD .nilFunc) w := by
  obtain ⟨v, ps, hrun, hR⟩ := ho.lookup keysL Tryz.underlying65 (zeroRule w) (zd := .held .nilFunc) (zp := []) rfl (Go.WideMaps.keyOf_string_mk (s := name) Tryz.underlying9 (by unfold maxLen; omega))
  have h2 : some (DataW.held v, ([] : List MemPlace)) = some (D.atKey (keyS name) (.held .nilFunc), ps) := hR
  injection h2 with h2
  have h3 := (Prod.mk.inj h2).1
  rw [hO.2] at h3
  rw [hrun]
  cases hf : f name with
  | none => rw [hf] at h3; injection h3 with h3; rw [h3]; rfl
  | some x => rw [hf] at h3; injection h3 with h3; rw [h3]; rfl
theorem starts_look {w w' : World} {B p0 p1 : Nat} (h : StartsIs w w' B p0 p1) (name : Str) (hs : name.size < 1000000) :
    (Instr.lookup 65 (.map (some B)) (.string name) false).run Tryz.prog w' = .ok ((hitOf (startRows p0 p1) (fun _ => true) name).getD .nilFunc) w' := by
  obtain ⟨m, D', ho, hO, _⟩ := h
  exact look_of ho hO name hs
theorem ends_look {w w' : World} {B p0 p1 : Nat} (h : EndsIs w w' B p0 p1) (name : Str) (hs : name.size < 1000000) :
    (Instr.lookup 65 (.map (some B)) (.string name) false).run Tryz.prog w' = .ok ((hitOf (endRows p0 p1) (fun _ => true) name).getD .nilFunc) w' := by
  obtain ⟨m, D', ho, hO, _⟩ := h
  exact look_of ho hO name hs
theorem StartsIs.bel {w w' : World} {B p0 p1 : Nat} (h : StartsIs w w' B p0 p1) : Bel w w' := by
  obtain ⟨m, D', ho, hO, hb, _⟩ := h
  exact hb
theorem EndsIs.bel {w w' : World} {B p0 p1 : Nat} (h : EndsIs w w' B p0 p1) : Bel w w' := by
  obtain ⟨m, D', ho, hO, hb, _⟩ := h
  exact hb
theorem BS.spaces (h : BS w0 F w b a st l s) : Lib.TabIs Tryz.prog w "strings.asciiSpace" .u8 Lib.asciiSpaceTab ∧ 1 < w.heap.size := by
  obtain ⟨_, ⟨Fa, Fs, Fl, Fb, vm, vk, hp, _⟩, _⟩ := h
  obtain ⟨W0, hl, h1, h2, h3⟩ := hp.old
  have := hl.size
  exact ⟨tabIs_of hl.spaces (h2 1 (by omega)), by omega⟩
theorem BS.starts_ (h : BS w0 F w b a st l s) : Calls Tryz.prog 29 #[] w fun e w' => ∃ B p0 p1, e = .returned (.map (some B)) ∧ StartsIs w w' B p0 p1 := starts_c w h.spaces.1 h.spaces.2
theorem BS.ends_ (h : BS w0 F w b a st l s) : Calls Tryz.prog 31 #[] w fun e w' => ∃ B p0 p1, e = .returned (.map (some B)) ∧ EndsIs w w' B p0 p1 := ends_c w h.spaces.1 h.spaces.2

theorem bel_box {w w1 : World} {o : Obj} (h : Bel (w.alloc o) w1) : ∀ j, w1.cell? ⟨w.heap.size, j, none⟩ = (w.alloc o).cell? ⟨w.heap.size, j, none⟩ :=
  fun j => World.cell?_of_block (a := ⟨w.heap.size, j, none⟩) (h.block w.heap.size (by simp))
set_option maxRecDepth 100000 in
set_option maxHeartbeats 4000000 in
theorem body_start (h : BS w0 F w b a st l s) (t : Tok) (hk : t.kind = 2) (hz : t.name.size < 1000000) (N : Nat) (hrun : ∀ args w, (callFunc N args).run Tryz.prog w = .ok (.enter N args) w) (hit : ∀ p0 p1, hitOf (startRows p0 p1) (fun _ => true) t.name = some (.func (.func N) #[] #[]))
    (C : ∀ w0 F w, BS w0 F w b a st l s → Calls Tryz.prog N #[.pointer (some ⟨b, 0, none⟩), tokV t] w fun e w' => e = .returned (.tuple #[]) ∧ BS w0 F w' b a st l s') :
    Calls Tryz.prog 9 #[.pointer (some ⟨b, 0, none⟩), tokV t] w fun e w' => e = .returned (.bool false) ∧ BS w0 F w' b a st l s' := by
  have h0 := h.enter (bel_alloc w (tokO t))
  have HST := Lib.hid (fun W (k : BS (w.alloc (tokO t)) (grow F w0 w) W b a st l s) => k.starts_)
  have HC := Lib.hid C
  have HH := Lib.hid h
  clear C
  have e5 : (t.kind == 5) = false := by rw [hk]; rfl
  have e7 : (t.kind == 7) = false := by rw [hk]; rfl
  have e4 : (t.kind == 4) = false := by rw [hk]; rfl
  have e8 : (t.kind == 8) = false := by rw [hk]; rfl
  have e2 : (t.kind == 2) = true := by rw [hk]; rfl
  clear hk
  go_enter Tryz.func9, Tryz.ntmps9
  go_wp2_with (go_at_call 17; refine (h0.arena_).mono ?_; rintro e w' ⟨rfl, rfl⟩)
  have hnil : ∀ (w : World) (fn : Fn) (cap : Array Value), (binOp BinOp.eql 64 (.func fn #[] cap) .nilFunc).run Tryz.prog w = .ok (.bool false) w := fun _ _ _ => by kernel_rfl
  have HZ := Lib.hid hz; have HIT := Lib.hid hit
  clear hz hit
  go_region_with (go_at_call 29; refine (HST.out _ (h0.bel (by repeat (first | exact Below.refl _ _ | exact bel_alloc _ _ | apply bel_dr | apply bel_drN)))).mono ?_; rintro e w1 ⟨B, p0, p1, rfl, hS⟩; have hlk := starts_look hS t.name HZ.out; rw [HIT.out p0 p1] at hlk; simp only [Option.getD_some] at hlk; have hb1 := bel_tr (show Bel (w.alloc (tokO t)) _ from (by repeat (first | exact Below.refl _ _ | exact bel_alloc _ _ | apply bel_dr | apply bel_drN))) hS.bel; have hbx := bel_box hb1)
  all_goals (
    go_wp2_with (first | (with_reducible refine (HC.out _ _ _ (h0.bel hb1)).mono ?_; rintro e w2 ⟨rfl, h2⟩))
    go_ret
    exact ⟨rfl, HH.out.sub (bel_alloc w (tokO t)) h2⟩)
end Go.Proofs.YtgaebaokcjhcdaaGreatDoor

/- bodies.Body: the other ways. -/
set_option linter.unusedVariables false
set_option linter.unusedSimpArgs false
namespace Go.Proofs.YtgaebaokcjhcdaaGreatDoor
open Go.RowKit Lz
variable {w0 w w' : World} {F : Nat → Prop} {b a st l n : Nat} {s s' : St}

set_option maxRecDepth 100000 in
set_option maxHeartbeats 4000000 in
theorem body_start_none (h : BS w0 F w b a st l s) (t : Tok) (hk : t.kind = 2) (hz : t.name.size < 1000000) (hit : ∀ p0 p1, hitOf (startRows p0 p1) (fun _ => true) t.name = none)
    (C : ∀ w0 F w, BS w0 F w b a st l s → Calls Tryz.prog 30 #[.pointer (some ⟨b, 0, none⟩), tokV t] w fun e w' => e = .returned (.tuple #[]) ∧ BS w0 F w' b a st l s') :
    Calls Tryz.prog 9 #[.pointer (some ⟨b, 0, none⟩), tokV t] w fun e w' => e = .returned (.bool false) ∧ BS w0 F w' b a st l s' := by
  have h0 := h.enter (bel_alloc w (tokO t))
  have HST := Lib.hid (fun W (k : BS (w.alloc (tokO t)) (grow F w0 w) W b a st l s) => k.starts_)
  have HC := Lib.hid C
  have HH := Lib.hid h
  clear C
  have e5 : (t.kind == 5) = false := by rw [hk]; rfl
  have e7 : (t.kind == 7) = false := by rw [hk]; rfl
  have e4 : (t.kind == 4) = false := by rw [hk]; rfl
  have e8 : (t.kind == 8) = false := by rw [hk]; rfl
  have e2 : (t.kind == 2) = true := by rw [hk]; rfl
  clear hk
  go_enter Tryz.func9, Tryz.ntmps9
  go_wp2_with (go_at_call 17; refine (h0.arena_).mono ?_; rintro e w' ⟨rfl, rfl⟩)
  have hnil : ∀ (w : World), (binOp BinOp.eql 64 .nilFunc .nilFunc).run Tryz.prog w = .ok (.bool true) w := fun _ => by kernel_rfl
  have HZ := Lib.hid hz; have HIT := Lib.hid hit
  clear hz hit
  go_region_with (go_at_call 29; refine (HST.out _ (h0.bel (by repeat (first | exact Below.refl _ _ | exact bel_alloc _ _ | apply bel_dr | apply bel_drN)))).mono ?_; rintro e w1 ⟨B, p0, p1, rfl, hS⟩; have hlk := starts_look hS t.name HZ.out; rw [HIT.out p0 p1] at hlk; simp only [Option.getD_none] at hlk; have hb1 := bel_tr (show Bel (w.alloc (tokO t)) _ from (by repeat (first | exact Below.refl _ _ | exact bel_alloc _ _ | apply bel_dr | apply bel_drN))) hS.bel; have hbx := bel_box hb1)
  all_goals (
    go_wp2_with (go_at_call 30; refine (HC.out _ _ _ (h0.bel hb1)).mono ?_; rintro e w2 ⟨rfl, h2⟩)
    go_ret
    exact ⟨rfl, HH.out.sub (bel_alloc w (tokO t)) h2⟩)
theorem strRow_one {W : World} {q : Nat} (xs : List Str) (h : W.heap[q]? = some (.cells (xs.map Value.string).toArray 9 (0, 0))) (hl : xs.length ≤ 1048576) : StrRow W (.slice (some ⟨q, 0, none⟩) xs.length xs.length) xs := strRow_lit xs h hl
/-- The item's closure, as starts has laid it. -/
theorem li_call {W0 W1 : World} {B p0 p1 : Nat} (k : BS w0 F W0 b a st l s) (hf : Fine n s) (hn : n + 2 ≤ 1048576) (t : Tok) (ht : TagOK t) (hS : StartsIs W0 W1 B p0 p1) :
    Calls Tryz.prog 143 #[.pointer (some ⟨b, 0, none⟩), tokV t, .pointer (some ⟨p0, 0, none⟩)] W1 fun e w' => e = .returned (.tuple #[]) ∧ BS w0 F w' b a st l (St.item s [n_li] t) := by
  obtain ⟨m, D', ho, hO, hb, hp0, hp1, q0, q1, hq0, hq1, b0, c0, b1, c1⟩ := hS
  have k1 := k.enter hb
  have hlp : p0 < W1.heap.size := (Array.getElem?_eq_some_iff.1 b0).1
  have hlq : q0 < W1.heap.size := (Array.getElem?_eq_some_iff.1 c0).1
  have nG : ∀ j, W0.heap.size ≤ j → ¬ grow F w0 W0 j := fun j hj hk => by have := k.blt j hk; omega
  refine (item1_c k1 hf hn t ht [n_li] p0 (.slice (some ⟨q0, 0, none⟩) 1 1) b0 (strRow_one [n_li] c0 (by decide)) (fun w2 kk => ?_)).mono fun e w' ⟨h1, h2⟩ => ⟨h1, k.sub hb h2⟩
  have keep : ∀ j, W0.heap.size ≤ j → j < W1.heap.size → w2.heap[j]? = W1.heap[j]? := fun j h1 h2 => by
    refine (kk.mtd.block j (by simp; omega) (fun hg => ?_)).trans (Below.heap_alloc _ _ _ h2)
    rcases hg with hg | hg
    · exact nG j h1 hg
    · omega
  exact ⟨(keep p0 hp0 hlp).trans b0, strRow_one [n_li] ((keep q0 hq0 hlq).trans c0) (by decide)⟩
set_option maxRecDepth 100000 in
set_option maxHeartbeats 4000000 in
theorem body_start_li (h : BS w0 F w b a st l s) (hf : Fine n s) (hn : n + 2 ≤ 1048576) (t : Tok) (ht : TagOK t) (hk : t.kind = 2) (hnm : t.name = n_li) :
    Calls Tryz.prog 9 #[.pointer (some ⟨b, 0, none⟩), tokV t] w fun e w' => e = .returned (.bool false) ∧ BS w0 F w' b a st l (St.item s [n_li] t) := by
  have h0 := h.enter (bel_alloc w (tokO t))
  have HST := Lib.hid (fun W (k : BS (w.alloc (tokO t)) (grow F w0 w) W b a st l s) => k.starts_)
  have hit : ∀ p0 p1, hitOf (startRows p0 p1) (fun _ => true) t.name = some (.func (.func 143) #[] #[.pointer (some ⟨p0, 0, none⟩)]) := by
    rw [hnm]; exact fun p0 p1 => by kernel_rfl
  have HH := Lib.hid h
  have e5 : (t.kind == 5) = false := by rw [hk]; rfl
  have e7 : (t.kind == 7) = false := by rw [hk]; rfl
  have e4 : (t.kind == 4) = false := by rw [hk]; rfl
  have e8 : (t.kind == 8) = false := by rw [hk]; rfl
  have e2 : (t.kind == 2) = true := by rw [hk]; rfl
  clear hk hnm
  have HLI := Lib.hid (fun W0 W1 B p0 p1 (k : BS (w.alloc (tokO t)) (grow F w0 w) W0 b a st l s) (hS : StartsIs W0 W1 B p0 p1) => li_call k hf hn t ht hS)
  go_enter Tryz.func9, Tryz.ntmps9
  go_wp2_with (go_at_call 17; refine (h0.arena_).mono ?_; rintro e w' ⟨rfl, rfl⟩)
  have hnil : ∀ (w : World) (fn : Fn) (cap : Array Value), (binOp BinOp.eql 64 (.func fn #[] cap) .nilFunc).run Tryz.prog w = .ok (.bool false) w := fun _ _ _ => by kernel_rfl
  have HZ := Lib.hid ht.size; have HIT := Lib.hid hit
  clear hit
  go_region_with (go_at_call 29; refine (HST.out _ (h0.bel (by repeat (first | exact Below.refl _ _ | exact bel_alloc _ _ | apply bel_dr | apply bel_drN)))).mono ?_; rintro e w1 ⟨B, p0, p1, rfl, hS⟩; have hlk := starts_look hS t.name HZ.out; rw [HIT.out p0 p1] at hlk; simp only [Option.getD_some] at hlk; have hb1 := bel_tr (show Bel (w.alloc (tokO t)) _ from (by repeat (first | exact Below.refl _ _ | exact bel_alloc _ _ | apply bel_dr | apply bel_drN))) hS.bel; have hbx := bel_box hb1; have hLI := HLI.out _ _ _ _ _ (h0.bel (by repeat (first | exact Below.refl _ _ | exact bel_alloc _ _ | apply bel_dr | apply bel_drN))) hS; have HL2 := Lib.hid hLI; clear hLI)
  all_goals (
    go_wp2_with (go_at_call 143; refine (HL2.out).mono ?_; rintro e w2 ⟨rfl, h2⟩)
    go_ret
    exact ⟨rfl, HH.out.sub (bel_alloc w (tokO t)) h2⟩)
set_option maxRecDepth 100000 in
set_option maxHeartbeats 4000000 in
theorem body_end (h : BS w0 F w b a st l s) (t : Tok) (hk : t.kind = 3) (hz : t.name.size < 1000000) (hh : (t.name == n_html) = false) (N : Nat) (hrun : ∀ args w, (callFunc N args).run Tryz.prog w = .ok (.enter N args) w) (hit : ∀ p0 p1, hitOf (endRows p0 p1) (fun _ => true) t.name = some (.func (.func N) #[] #[]))
    (C : ∀ w0 F w, BS w0 F w b a st l s → Calls Tryz.prog N #[.pointer (some ⟨b, 0, none⟩), tokV t] w fun e w' => e = .returned (.tuple #[]) ∧ BS w0 F w' b a st l s') :
    Calls Tryz.prog 9 #[.pointer (some ⟨b, 0, none⟩), tokV t] w fun e w' => e = .returned (.bool false) ∧ BS w0 F w' b a st l s' := by
  have h0 := h.enter (bel_alloc w (tokO t))
  have HST := Lib.hid (fun W (k : BS (w.alloc (tokO t)) (grow F w0 w) W b a st l s) => k.ends_)
  have HC := Lib.hid C
  have HH := Lib.hid h
  clear C
  have e5 : (t.kind == 5) = false := by rw [hk]; rfl
  have e7 : (t.kind == 7) = false := by rw [hk]; rfl
  have e4 : (t.kind == 4) = false := by rw [hk]; rfl
  have e8 : (t.kind == 8) = false := by rw [hk]; rfl
  have e2 : (t.kind == 2) = false := by rw [hk]; rfl
  have e3 : (t.kind == 3) = true := by rw [hk]; rfl
  have eh : (t.name.toList == [104, 116, 109, 108]) = false := by rw [← hh]; exact beqD t.name n_html
  clear hk hh
  go_enter Tryz.func9, Tryz.ntmps9
  go_wp2_with (go_at_call 17; refine (h0.arena_).mono ?_; rintro e w' ⟨rfl, rfl⟩)
  have hnil : ∀ (w : World) (fn : Fn) (cap : Array Value), (binOp BinOp.eql 64 (.func fn #[] cap) .nilFunc).run Tryz.prog w = .ok (.bool false) w := fun _ _ _ => by kernel_rfl
  have HZ := Lib.hid hz; have HIT := Lib.hid hit
  clear hz hit
  go_region_with (go_at_call 31; refine (HST.out _ (h0.bel (by repeat (first | exact Below.refl _ _ | exact bel_alloc _ _ | apply bel_dr | apply bel_drN)))).mono ?_; rintro e w1 ⟨B, p0, p1, rfl, hS⟩; have hlk := ends_look hS t.name HZ.out; rw [HIT.out p0 p1] at hlk; simp only [Option.getD_some] at hlk; have hb1 := bel_tr (show Bel (w.alloc (tokO t)) _ from (by repeat (first | exact Below.refl _ _ | exact bel_alloc _ _ | apply bel_dr | apply bel_drN))) hS.bel; have hbx := bel_box hb1; have k1 := (h0.bel hb1).enter (Below.refl _ _))
  all_goals (
    go_wp2_with (first | (with_reducible refine (HC.out _ _ _ (h0.bel hb1)).mono ?_; rintro e w2 ⟨rfl, h2⟩; have hbx2 := HH.out.boxed h2))
    go_ret
    exact ⟨rfl, HH.out.sub (bel_alloc w (tokO t)) h2⟩)
set_option maxRecDepth 100000 in
set_option maxHeartbeats 4000000 in
theorem body_chars (h : BS w0 F w b a st l s) (hf : Fine n s) (hn : n + 2 ≤ 1048576) (hr : Reb s) (t : Tok) (hk : t.kind = 5 ∨ t.kind = 7) (htx : t.text.size ≤ 1048576) :
    Calls Tryz.prog 9 #[.pointer (some ⟨b, 0, none⟩), tokV t] w fun e w' => e = .returned (.bool false) ∧ BS w0 F w' b a st l (s.rebuild.chars t.text) := by
  have h0 := h.enter (bel_alloc w (tokO t))
  have HRB := Lib.hid (h0.rebuild_ hr)
  have HCH := Lib.hid (fun W (k : BS (w.alloc (tokO t)) (grow F w0 w) W b a st l s.rebuild) => k.chars_ (hf.rebuild hr).foster t.text ((hf.rebuild hr).room2 hn) ((hf.rebuild hr).long (by omega) t.text htx))
  rcases hk with hk | hk
  · have e5 : (t.kind == 5) = true := by rw [hk]; rfl
    clear hk
    go_enter Tryz.func9, Tryz.ntmps9
    go_wp2_with (first | (go_at_call 17; refine (h0.arena_).mono ?_; rintro e w' ⟨rfl, rfl⟩) | (go_at_call 24; refine (HRB.out).mono ?_; rintro e w1 ⟨rfl, h1⟩; have hbx := h.boxed h1) | (go_at_call 25; refine (HCH.out _ h1).mono ?_; rintro e w2 ⟨rfl, h2⟩))
    go_ret
    exact ⟨rfl, h.sub (bel_alloc w (tokO t)) h2⟩
  · have e5 : (t.kind == 5) = false := by rw [hk]; rfl
    have e7 : (t.kind == 7) = true := by rw [hk]; rfl
    clear hk
    go_enter Tryz.func9, Tryz.ntmps9
    go_wp2_with (first | (go_at_call 17; refine (h0.arena_).mono ?_; rintro e w' ⟨rfl, rfl⟩) | (go_at_call 24; refine (HRB.out).mono ?_; rintro e w1 ⟨rfl, h1⟩; have hbx := h.boxed h1) | (go_at_call 25; refine (HCH.out _ h1).mono ?_; rintro e w2 ⟨rfl, h2⟩))
    go_ret
    exact ⟨rfl, h.sub (bel_alloc w (tokO t)) h2⟩
end Go.Proofs.YtgaebaokcjhcdaaGreatDoor

/- The document's builder (S), as far as opened goes: what memory holds for it; reads. -/
set_option linter.unusedVariables false
set_option linter.unusedSimpArgs false
namespace Go.Proofs.YtgaebaokcjhcdaaGreatDoor
open Go.RowKit Lz

structure RN where
  kind : Int
  name : Str
  space : Int
  parent : Int
  kids : List Int
def rn0 : RN := ⟨0, n_empty, 0, -1, []⟩
def sCells (g n cap : Nat) (vo : Value) (md hd : Int) (qk : Bool) : Array Value :=
  #[.slice (some ⟨g, 0, none⟩) n cap, vo, .slice none 0 0, .int .i64 md, .int .i64 0, .slice none 0 0, .int .i64 hd, .int .i64 (-1), .bool qk, .bool false, .bool false, .string n_empty, .bool false, .int .i64 0, .string n_empty, .int .i64 0]
structure SP (w : World) (F : Nat → Prop) (sp g cap : Nat) (cur : Array Value) (vk : Nat → Value) (vo : Value) (md hd : Int) (qk : Bool) (ns : List RN) (op : List Int) : Prop where
  blk : w.heap[sp]? = some (.cells (sCells g ns.length cap vo md hd qk) 75 (0, 0))
  Fs : F sp
  Fg : F g
  row : w.heap[g]? = some (.cells cur 54 (0, 0))
  le : ns.length ≤ cap
  capm : cap ≤ maxLen
  fit : cap * 11 ≤ cur.size
  col : ∀ i, i < ns.length → cur[i * 11]? = some (.int .i64 (ns.getD i rn0).kind) ∧ cur[i * 11 + 1]? = some (.string (ns.getD i rn0).name) ∧ cur[i * 11 + 3]? = some (.int .i64 (ns.getD i rn0).space) ∧ cur[i * 11 + 6]? = some (.int .i64 (ns.getD i rn0).parent) ∧ cur[i * 11 + 8]? = some (vk i)
  kids : ∀ i, i < ns.length → IntRow w F (vk i) (ns.getD i rn0).kids
  opn : IntRow w F vo op
  apart : ∀ i b, i < ns.length → (vk i).ownBlock = some b → vo.ownBlock ≠ some b
  lt : ∀ k, F k → k < w.heap.size
  small : ns.length ≤ 50
  ksmall : ∀ i, i < ns.length → (ns.getD i rn0).kids.length ≤ ns.length
  osmall : op.length ≤ ns.length
  par : ∀ i, i < ns.length → (ns.getD i rn0).parent < (i : Int) ∧ -1 ≤ (ns.getD i rn0).parent
  knd : ∀ i, i < ns.length → (ns.getD i rn0).kind ≠ 6 ∧ (ns.getD i rn0).name ≠ n_template
  opv : ∀ x ∈ op, 0 ≤ x ∧ x < (ns.length : Int)
  kpos : ∀ i, i < ns.length → ∀ x ∈ (ns.getD i rn0).kids, (0 : Int) ≤ x
def SRep (w : World) (F : Nat → Prop) (sp : Nat) (ns : List RN) (op : List Int) : Prop := ∃ g cap cur vk vo md hd qk, SP w F sp g cap cur vk vo md hd qk ns op
namespace SP
variable {w w' : World} {F G : Nat → Prop} {sp g cap : Nat} {cur : Array Value} {vk : Nat → Value} {vo : Value} {md hd : Int} {qk : Bool} {ns : List RN} {op : List Int}
theorem keep (h : SP w F sp g cap cur vk vo md hd qk ns op) (hk : ∀ k, F k → w'.heap[k]? = w.heap[k]?) (hG : ∀ k, F k → G k) (hlt : ∀ k, G k → k < w'.heap.size) : SP w' G sp g cap cur vk vo md hd qk ns op :=
  { h with
    blk := (hk sp h.Fs).trans h.blk, Fs := hG _ h.Fs, Fg := hG _ h.Fg, row := (hk g h.Fg).trans h.row
    kids := fun i hi => (h.kids i hi).keep (fun k hF _ => hk k hF) hG
    opn := h.opn.keep (fun k hF _ => hk k hF) hG
    lt := hlt }
theorem bel (h : SP w F sp g cap cur vk vo md hd qk ns op) (hb : Bel w w') : SP w' F sp g cap cur vk vo md hd qk ns op :=
  h.keep (fun k hF => hb.block k (h.lt k hF)) (fun _ h => h) (fun k hF => Nat.lt_of_lt_of_le (h.lt k hF) hb.size)
theorem c (h : SP w F sp g cap cur vk vo md hd qk ns op) (j : Nat) : w.cell? ⟨sp, j, none⟩ = (sCells g ns.length cap vo md hd qk)[j]? := blk_cell h.blk j
theorem f (h : SP w F sp g cap cur vk vo md hd qk ns op) (j : Nat) : w.frozen? ⟨sp, j, none⟩ = false := blk_frozen h.blk j
theorem rf (h : SP w F sp g cap cur vk vo md hd qk ns op) (j : Nat) : w.frozen? ⟨g, j, none⟩ = false := blk_frozen h.row j
theorem at_ (h : SP w F sp g cap cur vk vo md hd qk ns op) (i : Int) (h0 : 0 ≤ i) (h1 : i < (ns.length : Int)) :
    w.cell? ⟨g, i.toNat * 11, none⟩ = some (.int .i64 (ns.getD i.toNat rn0).kind) ∧ w.cell? ⟨g, i.toNat * 11 + 1, none⟩ = some (.string (ns.getD i.toNat rn0).name) ∧ w.cell? ⟨g, i.toNat * 11 + 3, none⟩ = some (.int .i64 (ns.getD i.toNat rn0).space) ∧ w.cell? ⟨g, i.toNat * 11 + 6, none⟩ = some (.int .i64 (ns.getD i.toNat rn0).parent) ∧ w.cell? ⟨g, i.toNat * 11 + 8, none⟩ = some (vk i.toNat) := by
  obtain ⟨a, b, c, d, e⟩ := h.col i.toNat (by omega)
  exact ⟨by rw [blk_cell h.row]; exact a, by rw [blk_cell h.row]; exact b, by rw [blk_cell h.row]; exact c, by rw [blk_cell h.row]; exact d, by rw [blk_cell h.row]; exact e⟩
end SP
theorem SRep.bel {w w' : World} {F : Nat → Prop} {sp : Nat} {ns : List RN} {op : List Int} (h : SRep w F sp ns op) (hb : Bel w w') : SRep w' F sp ns op := by
  obtain ⟨g, cap, cur, vk, vo, md, hd, qk, h⟩ := h
  exact ⟨g, cap, cur, vk, vo, md, hd, qk, h.bel hb⟩
variable {w w' : World} {F : Nat → Prop} {sp : Nat} {ns : List RN} {op : List Int}
set_option maxRecDepth 100000 in
set_option maxHeartbeats 1000000 in
theorem rAbove_c (h : SRep w F sp ns op) (i : Int) (h0 : 0 ≤ i) (h1 : i < (ns.length : Int)) :
    Calls Tryz.prog 216 #[.pointer (some ⟨sp, 0, none⟩), .int .i64 i] w fun e w' => e = .returned (.int .i64 (ns.getD i.toNat rn0).parent) ∧ w = w' := by
  obtain ⟨g, cap, cur, vk, vo, md, hd, qk, h⟩ := h
  have c0 : w.cell? ⟨sp, 0, none⟩ = some (.slice (some ⟨g, 0, none⟩) ns.length cap) := h.c 0
  obtain ⟨a, b, c, d, e⟩ := h.at_ i h0 h1
  have hk : ((ns.getD i.toNat rn0).kind == 6) = false := beq_eq_false_iff_ne.2 (h.knd i.toNat (by omega)).1
  have hs := h.small
  clear h b c e
  generalize ns.getD i.toNat rn0 = n at *
  go_enter Tryz.func216, Tryz.ntmps216
  go_wp2
  go_ret
  exact ⟨rfl, rfl⟩
set_option maxRecDepth 100000 in
set_option maxHeartbeats 1000000 in
theorem rOff_c (h : SRep w F sp ns op) (i : Int) (h0 : 0 ≤ i) (h1 : i < (ns.length : Int)) (hp : (ns.getD i.toNat rn0).parent = -1) :
    Calls Tryz.prog 217 #[.pointer (some ⟨sp, 0, none⟩), .int .i64 i] w fun e w' => e = .returned (.tuple #[]) ∧ w = w' := by
  obtain ⟨g, cap, cur, vk, vo, md, hd, qk, h⟩ := h
  have c0 : w.cell? ⟨sp, 0, none⟩ = some (.slice (some ⟨g, 0, none⟩) ns.length cap) := h.c 0
  obtain ⟨a, b, c, d, e⟩ := h.at_ i h0 h1
  rw [hp] at d
  have hs := h.small
  clear h a b c e hp
  go_enter Tryz.func217, Tryz.ntmps217
  go_wp2
  exact bodyPost_ret (results_none rfl _ _ _) rfl ⟨rfl, rfl⟩
set_option maxRecDepth 100000 in
set_option maxHeartbeats 2000000 in
theorem rHTML_c (h : SRep w F sp ns op) (i : Int) (h0 : 0 ≤ i) (h1 : i < (ns.length : Int)) :
    Calls Tryz.prog 195 #[.pointer (some ⟨sp, 0, none⟩), .int .i64 i, .string n_template] w fun e w' => e = .returned (.bool false) ∧ w = w' := by
  obtain ⟨g, cap, cur, vk, vo, md, hd, qk, h⟩ := h
  have c0 : w.cell? ⟨sp, 0, none⟩ = some (.slice (some ⟨g, 0, none⟩) ns.length cap) := h.c 0
  obtain ⟨a, b, c, d, e⟩ := h.at_ i h0 h1
  have hk : ((ns.getD i.toNat rn0).name.toList == [116, 101, 109, 112, 108, 97, 116, 101]) = false := by
    have := beqD (ns.getD i.toNat rn0).name n_template
    have e2 : ((ns.getD i.toNat rn0).name == n_template) = false := beq_eq_false_iff_ne.2 (h.knd i.toNat (by omega)).2
    exact this.trans e2
  have hk2 : ((ns.getD i.toNat rn0).name.toList == n_template.toList) = false := by
    have := beqS (ns.getD i.toNat rn0).name n_template
    have e2 : ((ns.getD i.toNat rn0).name == n_template) = false := beq_eq_false_iff_ne.2 (h.knd i.toNat (by omega)).2
    exact this.trans e2
  have hs := h.small
  clear h d e
  generalize ns.getD i.toNat rn0 = n at *
  cases g1 : n.kind == 3
  · go_enter Tryz.func195, Tryz.ntmps195
    go_wp2
    go_ret
    exact ⟨rfl, rfl⟩
  · cases g2 : n.space == 0
    · go_enter Tryz.func195, Tryz.ntmps195
      go_wp2
      go_ret
      exact ⟨rfl, rfl⟩
    · go_enter Tryz.func195, Tryz.ntmps195
      go_wp2
      go_ret
      exact ⟨rfl, rfl⟩
def topR (op : List Int) : Int := if op.length = 0 then -1 else op.getD (op.length - 1) 0
set_option maxRecDepth 100000 in
set_option maxHeartbeats 2000000 in
theorem rTop_c (h : SRep w F sp ns op) :
    Calls Tryz.prog 198 #[.pointer (some ⟨sp, 0, none⟩)] w fun e w' => e = .returned (.int .i64 (topR op)) ∧ Bel w w' := by
  obtain ⟨g, cap, cur, vk, vo, md, hd, qk, h⟩ := h
  have c1 : w.cell? ⟨sp, 1, none⟩ = some vo := h.c 1
  have ho := h.opn
  have hs := h.small
  have hos := h.osmall
  clear h
  rcases ho with ⟨rfl, rfl⟩ | ⟨gk, capk, curk, rfl, hFk, hbk, r1, r2, r3, r4⟩
  · go_enter Tryz.func198, Tryz.ntmps198
    go_wp2
    go_ret
    exact ⟨rfl, Below.refl _ _⟩
  · by_cases hl : op.length = 0
    · have e : topR op = -1 := by unfold topR; rw [if_pos hl]
      rw [e]
      have c1' : w.cell? ⟨sp, 1, none⟩ = some (.slice (some ⟨gk, 0, none⟩) 0 capk) := by rw [c1, hl]
      clear c1 e r4 hl
      go_enter Tryz.func198, Tryz.ntmps198
      go_wp2
      go_ret
      exact ⟨rfl, Below.refl _ _⟩
    · have e : topR op = op.getD (op.length - 1) 0 := by unfold topR; rw [if_neg hl]
      rw [e]
      obtain ⟨q, hq⟩ : ∃ q, op.length = q + 1 := ⟨op.length - 1, by omega⟩
      have c2 : w.cell? ⟨gk, q, none⟩ = some (.int .i64 (op.getD (op.length - 1) 0)) := by
        rw [blk_cell hbk, hq]; exact r4 q (by omega)
      rw [hq] at c1
      generalize op.getD (op.length - 1) 0 = v at *
      have b1 : (q : Int) + 1 - 1 = q := by omega
      have b2 : IntKind.i64.wrap ((q : Int) + 1 - 1) = (q : Int) := by rw [b1]; exact IntWalk.i64_in _ (by omega)
      have b6 : IntKind.i64.wrap (q : Int) = (q : Int) := IntWalk.i64_in _ (by omega)
      have b3 : 0 ≤ (q : Int) := by omega
      have b4 : (q : Int) < ((q : Int) + 1) := by omega
      have b5 : ((q : Int) + 1 == 0) = false := by simp; omega
      clear e hq r4 hl b1
      go_enter Tryz.func198, Tryz.ntmps198
      go_wp2
      go_quiet (fail)
      go_wp2
      go_ret
      exact ⟨rfl, bel_drN (Below.refl _ _)⟩
set_option maxRecDepth 100000 in
set_option maxHeartbeats 1000000 in
theorem rHere_c (h : SRep w F sp ns op) :
    Calls Tryz.prog 165 #[.pointer (some ⟨sp, 0, none⟩)] w fun e w' => e = .returned (.int .i64 (max (topR op) 0)) ∧ Bel w w' := by
  have HT := Lib.hid (rTop_c h)
  generalize topR op = t at *
  go_enter Tryz.func165, Tryz.ntmps165
  go_wp2_with (go_at_call 198; refine HT.out.mono ?_; rintro e w1 ⟨rfl, hb1⟩)
  go_ret
  exact ⟨rfl, hb1⟩
set_option maxRecDepth 100000 in
set_option maxHeartbeats 2000000 in
theorem rPlace_c (h : SRep w F sp ns op) (i : Int) (h0 : 0 ≤ i) (h1 : i < (ns.length : Int)) :
    Calls Tryz.prog 196 #[.pointer (some ⟨sp, 0, none⟩), .int .i64 i] w fun e w' => e = .returned (.tuple #[.int .i64 i, .int .i64 (-1)]) ∧ w = w' := by
  have HH := Lib.hid (rHTML_c h i h0 h1)
  obtain ⟨g, cap, cur, vk, vo, md, hd, qk, h⟩ := h
  have c9 : w.cell? ⟨sp, 9, none⟩ = some (.bool false) := h.c 9
  clear h
  go_enter Tryz.func196, Tryz.ntmps196
  go_wp2_with (go_at_call 195; refine HH.out.mono ?_; rintro e w' ⟨rfl, rfl⟩)
  go_ret2
  exact ⟨rfl, rfl⟩
end Go.Proofs.YtgaebaokcjhcdaaGreatDoor

/- The document's builder (S): Add. -/
set_option linter.unusedVariables false
set_option linter.unusedSimpArgs false
namespace Go.Proofs.YtgaebaokcjhcdaaGreatDoor
open Go.RowKit Lz
variable {w w' : World} {F : Nat → Prop} {sp : Nat} {ns : List RN} {op : List Int}

abbrev rNew (name : Str) : RN := ⟨3, name, 0, -1, []⟩
def rNews (name : Str) : List Value := [.int .i64 3, .string name, .string n_empty, .int .i64 0, .slice none 0 0, .bool false, .int .i64 (-1), .int .i64 0, .slice none 0 0, .int .i64 (-1), .int .i64 (-1)]
theorem rf_added {w W w2 : World} {F : Nat → Prop} {sp g cap g' cap' : Nat} {cur cur' : Array Value} {vk : Nat → Value} {vo : Value} {md hd : Int} {qk : Bool} {ns : List RN} {op : List Int} {name : Str} (hv : SP w F sp g cap cur vk vo md hd qk ns op) (hbw : Bel w W)
    (hApp : AppR W w2 (some g) 54 11 ns.length 1 (fun j => cur[j]?) (rNews name) g' cap' cur') (hl : ns.length < 50) (hnm : name ≠ n_template) :
    Mut F w (w2.setCell ⟨sp, 0, none⟩ (.slice (some ⟨g', 0, none⟩) (ns.length + 1) cap')) ∧
    SP (w2.setCell ⟨sp, 0, none⟩ (.slice (some ⟨g', 0, none⟩) (ns.length + 1) cap')) (grow F w (w2.setCell ⟨sp, 0, none⟩ (.slice (some ⟨g', 0, none⟩) (ns.length + 1) cap'))) sp g' cap' cur'
      (fun i => if i = ns.length then .slice none 0 0 else vk i) vo md hd qk (ns ++ [rNew name]) op := by
  have hal' : sp < w.heap.size := hv.lt sp hv.Fs
  have hag : sp ≠ g := blk_ne hv.blk hv.row (by decide)
  have hm2 : Mut F w w2 := (Mut.of_bel hbw).trans ((hApp.mut (F := F) (fun k e => by cases e; exact hv.Fg)).mono (fun k h => .inl h))
  have hm : Mut F w (w2.setCell ⟨sp, 0, none⟩ (.slice (some ⟨g', 0, none⟩) (ns.length + 1) cap')) := hm2.setCell (.inl hv.Fs) _
  have hga : g' ≠ sp := by
    rcases hApp.where_ with e | e
    · cases e; exact fun e => hag e.symm
    · have := hbw.size; omega
  have hw2a : w2.heap[sp]? = w.heap[sp]? := (hApp.block sp (Nat.lt_of_lt_of_le hal' hbw.size) (by intro e; cases e; exact hag rfl)).trans (hbw.block sp hal')
  have hset : ∀ k, k ≠ sp → (w2.setCell ⟨sp, 0, none⟩ (.slice (some ⟨g', 0, none⟩) (ns.length + 1) cap')).heap[k]? = w2.heap[k]? := fun k hk => Below.heap_setCell _ _ _ _ hk
  have hold : ∀ k, k < w.heap.size → k ≠ sp → k ≠ g → (w2.setCell ⟨sp, 0, none⟩ (.slice (some ⟨g', 0, none⟩) (ns.length + 1) cap')).heap[k]? = w.heap[k]? := fun k hk h1 h2 =>
    (hset k h1).trans ((hApp.block k (Nat.lt_of_lt_of_le hk hbw.size) (by intro e; cases e; exact h2 rfl)).trans (hbw.block k hk))
  generalize hw3 : w2.setCell ⟨sp, 0, none⟩ (.slice (some ⟨g', 0, none⟩) (ns.length + 1) cap') = w3 at *
  have hsz3 : w3.heap.size = w2.heap.size := by rw [← hw3]; simp
  have hg3 : ∀ k, F k → k < w3.heap.size := fun k hk => Nat.lt_of_lt_of_le (hv.lt k hk) hm.size
  have hgl : ∀ i, i < ns.length → (ns ++ [rNew name]).getD i rn0 = ns.getD i rn0 := fun i hi => by simp [List.getD, List.getElem?_append_left hi]
  have hll : (ns ++ [rNew name]).getD ns.length rn0 = rNew name := by simp [List.getD]
  have hlen : (ns ++ [rNew name]).length = ns.length + 1 := by simp
  have hlast : ∀ i, i < ns.length + 1 → ¬ i < ns.length → i = ns.length := fun i h1 h2 => by omega
  refine ⟨hm, ?_⟩
  refine { blk := ?_, Fs := .inl hv.Fs, Fg := ?_, row := ?_, le := by rw [hlen]; exact hApp.le, capm := hApp.capm, fit := hApp.fit, col := ?_, kids := ?_, opn := ?_, apart := ?_, lt := ?_, small := by rw [hlen]; omega, ksmall := ?_, osmall := ?_, par := ?_, knd := ?_, opv := ?_, kpos := ?_ }
  · rw [← hw3, heap_setCell_same _ _ _ _ _ _ (hw2a.trans hv.blk), hlen]; rfl
  · rcases hApp.where_ with e | e
    · cases e; exact .inl hv.Fg
    · refine .inr ⟨Nat.le_trans hbw.size e, ?_⟩
      rw [hsz3]; exact (Array.getElem?_eq_some_iff.1 hApp.row).1
  · rw [hset g' hga]; exact hApp.row
  · intro i hi
    rw [hlen] at hi
    by_cases hi' : i < ns.length
    · obtain ⟨a, b, c, d, e⟩ := hv.col i hi'
      rw [hgl i hi', if_neg (by omega)]
      exact ⟨(hApp.pre _ (by omega)).trans a, (hApp.pre _ (by omega)).trans b, (hApp.pre _ (by omega)).trans c, (hApp.pre _ (by omega)).trans d, (hApp.pre _ (by omega)).trans e⟩
    · obtain rfl := hlast i hi hi'
      rw [hll, if_pos rfl]
      exact ⟨hApp.new 0 (by simp [rNews]), hApp.new 1 (by simp [rNews]), hApp.new 3 (by simp [rNews]), hApp.new 6 (by simp [rNews]), hApp.new 8 (by simp [rNews])⟩
  · intro i hi
    rw [hlen] at hi
    by_cases hi' : i < ns.length
    · rw [hgl i hi']; simp only [if_neg (show ¬ i = ns.length by omega)]
      exact (hv.kids i hi').keepT (fun k cs hF hb => hold k (hv.lt k hF) (blk_ne hb hv.blk (by decide)) (blk_ne hb hv.row (by decide))) (fun k hF => .inl hF)
    · obtain rfl := hlast i hi hi'
      rw [hll]; simp only [if_true]
      exact .inl ⟨rfl, rfl⟩
  · exact hv.opn.keepT (fun k cs hF hb => hold k (hv.lt k hF) (blk_ne hb hv.blk (by decide)) (blk_ne hb hv.row (by decide))) (fun k hF => .inl hF)
  · intro i b hi h1
    rw [hlen] at hi
    by_cases hi' : i < ns.length
    · simp only [if_neg (show ¬ i = ns.length by omega)] at h1
      exact hv.apart i b hi' h1
    · obtain rfl := hlast i hi hi'
      simp only [if_true] at h1
      cases h1
  · rintro k (hk | hk)
    · exact hg3 k hk
    · exact hk.2
  · intro i hi
    rw [hlen] at hi ⊢
    by_cases hi' : i < ns.length
    · rw [hgl i hi']; have := hv.ksmall i hi'; omega
    · obtain rfl := hlast i hi hi'
      rw [hll]; exact Nat.zero_le _
  · rw [hlen]; have := hv.osmall; omega
  · intro i hi
    rw [hlen] at hi
    by_cases hi' : i < ns.length
    · rw [hgl i hi']; exact hv.par i hi'
    · obtain rfl := hlast i hi hi'
      rw [hll]; show (-1 : Int) < _ ∧ (-1 : Int) ≤ -1; omega
  · intro i hi
    rw [hlen] at hi
    by_cases hi' : i < ns.length
    · rw [hgl i hi']; exact hv.knd i hi'
    · obtain rfl := hlast i hi hi'
      rw [hll]; exact ⟨by show (3 : Int) ≠ 6; decide, hnm⟩
  · intro x hx
    have := hv.opv x hx
    rw [hlen]; omega
  · intro i hi x hx
    rw [hlen] at hi
    by_cases hi' : i < ns.length
    · rw [hgl i hi'] at hx; exact hv.kpos i hi' x hx
    · obtain rfl := hlast i hi hi'
      rw [hll] at hx; cases hx
theorem rf_after {W : World} {o : Obj} {e size n m : Nat} {pre : Nat → Option Value} {news : List Value} {g sp : Nat} {u : Value} (hs : sp < W.heap.size) (hg : sp ≠ g) (hc : W.cell? ⟨sp, 0, none⟩ = some u) (hf : W.frozen? ⟨sp, 0, none⟩ = false) :
    ∀ g' cap' cur' w2, AppR (W.alloc o) w2 (some g) e size n m pre news g' cap' cur' → w2.cell? ⟨sp, 0, none⟩ = some u ∧ w2.frozen? ⟨sp, 0, none⟩ = false := fun g' cap' cur' w2 hA => by
  have hb := hA.block sp (by simp; omega) (by intro e; cases e; exact hg rfl)
  have ha := bel_alloc W o
  exact ⟨(World.cell?_of_block (a := ⟨sp, 0, none⟩) hb).trans ((ha.cell (p := ⟨sp, 0, none⟩) hs).trans hc), (World.frozen?_of_block (a := ⟨sp, 0, none⟩) hb).trans ((ha.frozen (p := ⟨sp, 0, none⟩) hs).trans hf)⟩
set_option maxRecDepth 100000 in
set_option maxHeartbeats 4000000 in
theorem rAdd_c (h : SRep w F sp ns op) (name : Str) (hnm : name ≠ n_template) (hl : ns.length < 50) :
    Calls Tryz.prog 163 #[.pointer (some ⟨sp, 0, none⟩), .agg #[.int .i64 3, .string name, .string n_empty, .int .i64 0, .slice none 0 0, .bool false, .int .i64 0, .int .i64 0, .slice none 0 0, .int .i64 (-1), .int .i64 (-1)]] w fun e w' =>
      e = .returned (.int .i64 ns.length) ∧ Mut F w w' ∧ SRep w' (grow F w w') sp (ns ++ [rNew name]) op := by
  obtain ⟨i0, hi, hz0, hz1, hz2⟩ := info_parts Tryz.infoNode
  obtain ⟨g, cap, cur, vk, vo, md, hd, qk, hv⟩ := h
  have c0 : w.cell? ⟨sp, 0, none⟩ = some (.slice (some ⟨g, 0, none⟩) ns.length cap) := hv.c 0
  have f0 := hv.f 0
  have spl : sp < w.heap.size := hv.lt sp hv.Fs
  have gl : g < w.heap.size := hv.lt g hv.Fg
  have hsg : sp ≠ g := blk_ne hv.blk hv.row (by decide)
  have hcapm := hv.capm; have hfit := hv.fit; have hle := hv.le
  have HROW := Lib.hid (fun W (hW : Bel w W) => (hW.block g gl).trans hv.row)
  have HFIN := Lib.hid (fun W w2 g' cap' cur' (hbw : Bel w W) (hA : AppR W w2 (some g) 54 11 ns.length 1 (fun j => cur[j]?) (rNews name) g' cap' cur') => rf_added hv hbw hA hl hnm)
  clear hv
  go_enter Tryz.func163, Tryz.ntmps163
  go_wp2
  have hbW := bel_alloc w (.cells (rNews name).toArray 54 (0, 0))
  have B0 := heap_alloc_new w (.cells (rNews name).toArray 54 (0, 0))
  have q0 : (w.alloc (.cells (rNews name).toArray 54 (0, 0))).cell? ⟨w.heap.size, 0, none⟩ = some (.int .i64 3) := blk_cell B0 0
  have q1 : (w.alloc (.cells (rNews name).toArray 54 (0, 0))).cell? ⟨w.heap.size, 1, none⟩ = some (.string name) := blk_cell B0 1
  have q2 : (w.alloc (.cells (rNews name).toArray 54 (0, 0))).cell? ⟨w.heap.size, 2, none⟩ = some (.string n_empty) := blk_cell B0 2
  have q3 : (w.alloc (.cells (rNews name).toArray 54 (0, 0))).cell? ⟨w.heap.size, 3, none⟩ = some (.int .i64 0) := blk_cell B0 3
  have q4 : (w.alloc (.cells (rNews name).toArray 54 (0, 0))).cell? ⟨w.heap.size, 4, none⟩ = some (.slice none 0 0) := blk_cell B0 4
  have q5 : (w.alloc (.cells (rNews name).toArray 54 (0, 0))).cell? ⟨w.heap.size, 5, none⟩ = some (.bool false) := blk_cell B0 5
  have q6 : (w.alloc (.cells (rNews name).toArray 54 (0, 0))).cell? ⟨w.heap.size, 6, none⟩ = some (.int .i64 (-1)) := blk_cell B0 6
  have q7 : (w.alloc (.cells (rNews name).toArray 54 (0, 0))).cell? ⟨w.heap.size, 7, none⟩ = some (.int .i64 0) := blk_cell B0 7
  have q8 : (w.alloc (.cells (rNews name).toArray 54 (0, 0))).cell? ⟨w.heap.size, 8, none⟩ = some (.slice none 0 0) := blk_cell B0 8
  have q9 : (w.alloc (.cells (rNews name).toArray 54 (0, 0))).cell? ⟨w.heap.size, 9, none⟩ = some (.int .i64 (-1)) := blk_cell B0 9
  have q10 : (w.alloc (.cells (rNews name).toArray 54 (0, 0))).cell? ⟨w.heap.size, 10, none⟩ = some (.int .i64 (-1)) := blk_cell B0 10
  have c1 := (hbW.cell (p := ⟨sp, 0, none⟩) spl).trans c0
  have f1 := (hbW.frozen (p := ⟨sp, 0, none⟩) spl).trans f0
  have hsp1 := Nat.lt_of_lt_of_le spl hbW.size
  have hgl1 := Nat.lt_of_lt_of_le gl hbW.size
  have hb1 : w.heap.size < (w.alloc (.cells (rNews name).toArray 54 (0, 0))).heap.size := by simp
  have HBW := Lib.hid hbW
  show Code.wp _ _ _ _ (w.alloc (.cells (rNews name).toArray 54 (0, 0)))
  clear B0 hbW c0 f0
  generalize w.alloc (.cells (rNews name).toArray 54 (0, 0)) = W at *
  have hone : ∀ u ∈ rNews name, u.oneCell' = true := by simp [rNews, Value.oneCell']
  have h63 : ns.length + 1 ≤ maxLen := by unfold maxLen; omega
  have hby : (ns.length + 1) * 136 ≤ 140737488355328 := by omega
  have HCF := Lib.hid (rf_after (W := W.drew) (o := .cells (rNews name).toArray 54 (0, 0)) (e := 54) (size := 11) (n := ns.length) (m := 1) (pre := fun j => cur[j]?) (news := rNews name) (g := g) hsp1 hsg c1 f1)
  go_region_law (refine step_append_r rfl (.tmp 22) (.tmp 24) 47 rfl 54 i0 (.agg (ndCells nd0 (.slice none 0 0) (.slice none 0 0)).toArray) 11 136 Tryz.underlying47 hi hz0 hz1 hz2 rfl (by decide) g ns.length cap cur rfl (HROW.out _ (bel_tr HBW.out (bel_al (bel_dr (Below.refl _ _))))) hcapm hfit hle ⟨W.heap.size, 0, none⟩ 1 1 (rNews name) rfl rfl (World.news_of_block (heap_alloc_new W.drew (.cells (rNews name).toArray 54 (0, 0)))) hone h63 hby ?_; intro g' cap' cur' w2 hApp; obtain ⟨c2, f2⟩ := HCF.out _ _ _ _ hApp)
  all_goals (
    have hfin := HFIN.out _ _ _ _ _ (bel_tr HBW.out (bel_al (bel_dr (Below.refl _ _)))) hApp
    have hrep : SRep _ (grow F w _) sp (ns ++ [rNew name]) op := ⟨_, _, _, _, _, _, _, _, hfin.2⟩
    have HM := Lib.hid hfin.1
    have hl1 : (ns ++ [rNew name]).length = ns.length + 1 := by simp
    have HH := Lib.hid (rHTML_c hrep (ns.length : Int) (by omega) (by omega))
    clear hl1
    have HR := Lib.hid hrep
    clear hfin hrep
    go_wp2_with (go_at_call 195; refine HH.out.mono ?_; rintro e w' ⟨rfl, rfl⟩)
    go_ret
    exact ⟨rfl, HM.out, HR.out⟩)
end Go.Proofs.YtgaebaokcjhcdaaGreatDoor

/- The document's builder (S): Lay. -/
set_option linter.unusedVariables false
set_option linter.unusedSimpArgs false
namespace Go.Proofs.YtgaebaokcjhcdaaGreatDoor
open Go.RowKit Lz
variable {w w' : World} {F : Nat → Prop} {sp : Nat} {ns : List RN} {op : List Int}

theorem rn_modify {ns : List RN} {p : Nat} {f : RN → RN} (i : Nat) (hi : i < ns.length) : (ns.modify p f).getD i rn0 = if i = p then f (ns.getD i rn0) else ns.getD i rn0 := by
  rw [List.getD_eq_getElem?_getD, List.getD_eq_getElem?_getD, List.getElem?_modify, List.getElem?_eq_getElem hi]
  by_cases h : i = p
  · subst h; simp
  · rw [if_neg h]; simp [Ne.symm h]
def rSet (ns : List RN) (p i : Nat) : List RN := (ns.modify p fun n => { n with kids := n.kids ++ [(i : Int)] }).modify i fun n => { n with parent := (p : Int) }
theorem rSet_len (ns : List RN) (p i : Nat) : (rSet ns p i).length = ns.length := by simp [rSet]
theorem rSet_at {ns : List RN} {p i : Nat} (hpi : p ≠ i) (j : Nat) (hj : j < ns.length) : (rSet ns p i).getD j rn0 = if j = i then { ns.getD j rn0 with parent := (p : Int) } else if j = p then { ns.getD j rn0 with kids := (ns.getD j rn0).kids ++ [(i : Int)] } else ns.getD j rn0 := by
  unfold rSet
  rw [rn_modify j (by simpa using hj), rn_modify j hj]
  by_cases h1 : j = i
  · subst h1; rw [if_pos rfl, if_pos rfl, if_neg (Ne.symm hpi)]
  · rw [if_neg h1, if_neg h1]
theorem intRow_of_own {w : World} {B : Nat} {v : Value} {xs : List Int} (h : w.ownsRow B 3 1 v xs.length (xs.map (Value.int .i64))) : IntRow w (fun k => B ≤ k ∧ k < w.heap.size) v xs := by
  obtain ⟨h0, ⟨rfl, hx⟩ | ⟨g, cap, cur, rfl, hb, hh, h1, h2, h3, h4⟩⟩ := h
  · exact .inl ⟨rfl, List.length_eq_zero_iff.1 hx⟩
  · refine .inr ⟨g, cap, cur, rfl, ⟨hb, (Array.getElem?_eq_some_iff.1 hh).1⟩, hh, h1, h2, by omega, fun i hi => ?_⟩
    have e : (cur.toList.take (xs.length * 1))[i]? = (xs.map (Value.int .i64))[i]? := by rw [h4]
    rw [List.getElem?_take_of_lt (by omega)] at e
    rw [← Array.getElem?_toList, e, List.getElem?_map, List.getD_eq_getElem?_getD, List.getElem?_eq_getElem hi]
    rfl
theorem IntRow.blk_in {w : World} {F : Nat → Prop} {v : Value} {xs : List Int} (h : IntRow w F v xs) : ∀ k, v.ownBlock = some k → F k := by
  rcases h with ⟨rfl, _⟩ | ⟨g, cap, cur, rfl, hF, _⟩
  · intro k hk; cases hk
  · intro k hk; cases hk; exact hF
theorem rf_laid {w W : World} {F : Nat → Prop} {sp g cap : Nat} {cur : Array Value} {vk : Nat → Value} {vo : Value} {md hd : Int} {qk : Bool} {ns : List RN} {op : List Int} (hv : SP w F sp g cap cur vk vo md hd qk ns op) (hbw : Bel w W) {p i : Nat} {v : Value} (hpi : p < i) (hi : i < ns.length)
    (hrow : IntRow W (fun k => w.heap.size ≤ k ∧ k < W.heap.size) v ((ns.getD p rn0).kids ++ [(i : Int)])) (hk : (ns.getD p rn0).kids.length + 1 ≤ ns.length) :
    Mut F w ((W.setCell ⟨g, p * 11 + 8, none⟩ v).setCell ⟨g, i * 11 + 6, none⟩ (.int .i64 (p : Int))) ∧
    SRep ((W.setCell ⟨g, p * 11 + 8, none⟩ v).setCell ⟨g, i * 11 + 6, none⟩ (.int .i64 (p : Int))) (grow F w ((W.setCell ⟨g, p * 11 + 8, none⟩ v).setCell ⟨g, i * 11 + 6, none⟩ (.int .i64 (p : Int)))) sp (rSet ns p i) op := by
  have hpn : p ≠ i := by omega
  have hgw : W.heap[g]? = some (.cells cur 54 (0, 0)) := (hbw.block g (hv.lt g hv.Fg)).trans hv.row
  have h1 : (W.setCell ⟨g, p * 11 + 8, none⟩ v).heap[g]? = some (.cells (cur.setIfInBounds (p * 11 + 8) v) 54 (0, 0)) := heap_setCell_same _ _ _ _ _ _ hgw
  have h2 : ((W.setCell ⟨g, p * 11 + 8, none⟩ v).setCell ⟨g, i * 11 + 6, none⟩ (.int .i64 (p : Int))).heap[g]? = some (.cells ((cur.setIfInBounds (p * 11 + 8) v).setIfInBounds (i * 11 + 6) (.int .i64 (p : Int))) 54 (0, 0)) := heap_setCell_same _ _ _ _ _ _ h1
  have hm : Mut F w ((W.setCell ⟨g, p * 11 + 8, none⟩ v).setCell ⟨g, i * 11 + 6, none⟩ (.int .i64 (p : Int))) := ((Mut.of_bel hbw).setCell (.inl hv.Fg) _).setCell (.inl hv.Fg) _
  have hset : ∀ k, k ≠ g → ((W.setCell ⟨g, p * 11 + 8, none⟩ v).setCell ⟨g, i * 11 + 6, none⟩ (.int .i64 (p : Int))).heap[k]? = W.heap[k]? := fun k hk => (Below.heap_setCell _ _ _ _ hk).trans (Below.heap_setCell _ _ _ _ hk)
  have hold : ∀ k, k < w.heap.size → k ≠ g → ((W.setCell ⟨g, p * 11 + 8, none⟩ v).setCell ⟨g, i * 11 + 6, none⟩ (.int .i64 (p : Int))).heap[k]? = w.heap[k]? := fun k hk hg => (hset k hg).trans (hbw.block k hk)
  have hsz : ((W.setCell ⟨g, p * 11 + 8, none⟩ v).setCell ⟨g, i * 11 + 6, none⟩ (.int .i64 (p : Int))).heap.size = W.heap.size := by simp
  have hsg : sp ≠ g := blk_ne hv.blk hv.row (by decide)
  have hfit := hv.fit; have hle := hv.le; have hbs := hbw.size
  have hgl := hv.lt g hv.Fg
  generalize hw3 : (W.setCell ⟨g, p * 11 + 8, none⟩ v).setCell ⟨g, i * 11 + 6, none⟩ (.int .i64 (p : Int)) = w3 at *
  have hc : ∀ j, ((cur.setIfInBounds (p * 11 + 8) v).setIfInBounds (i * 11 + 6) (.int .i64 (p : Int)))[j]? = if j = i * 11 + 6 then some (.int .i64 (p : Int)) else if j = p * 11 + 8 then some v else cur[j]? := fun j => by
    rw [Array.getElem?_setIfInBounds, Array.getElem?_setIfInBounds]
    by_cases e1 : i * 11 + 6 = j
    · rw [if_pos e1, if_pos e1.symm, if_pos (by simp; omega)]
    · rw [if_neg e1, if_neg (Ne.symm e1)]
      by_cases e2 : p * 11 + 8 = j
      · rw [if_pos e2, if_pos e2.symm, if_pos (by omega)]
      · rw [if_neg e2, if_neg (Ne.symm e2)]
  refine ⟨hm, g, cap, (cur.setIfInBounds (p * 11 + 8) v).setIfInBounds (i * 11 + 6) (.int .i64 (p : Int)), fun j => if j = p then v else vk j, vo, md, hd, qk, ?_⟩
  refine { blk := ?_, Fs := .inl hv.Fs, Fg := .inl hv.Fg, row := h2, le := by rw [rSet_len]; exact hle, capm := hv.capm, fit := by simpa using hfit, col := ?_, kids := ?_, opn := ?_, apart := ?_, lt := ?_, small := by rw [rSet_len]; exact hv.small, ksmall := ?_, osmall := by rw [rSet_len]; exact hv.osmall, par := ?_, knd := ?_, opv := ?_, kpos := ?_ }
  · rw [hold sp (hv.lt sp hv.Fs) hsg, rSet_len]; exact hv.blk
  · intro j hj
    rw [rSet_len] at hj
    obtain ⟨a, b, c, d, e⟩ := hv.col j hj
    rw [rSet_at hpn j hj]
    simp only [hc]
    refine ⟨?_, ?_, ?_, ?_, ?_⟩
    · rw [if_neg (by omega), if_neg (by omega), a]; split; rfl; split <;> rfl
    · rw [if_neg (by omega), if_neg (by omega), b]; split; rfl; split <;> rfl
    · rw [if_neg (by omega), if_neg (by omega), c]; split; rfl; split <;> rfl
    · by_cases hji : j = i
      · subst hji; rw [if_pos rfl, if_pos rfl]
      · rw [if_neg (by omega), if_neg (by omega), d, if_neg hji]; split <;> rfl
    · rw [if_neg (by omega)]
      by_cases hjp : j = p
      · subst hjp; rw [if_pos rfl, if_pos rfl]
      · rw [if_neg (by omega), if_neg hjp, e]
  · intro j hj
    rw [rSet_len] at hj
    have hkk : ∀ j, j < ns.length → IntRow w3 (grow F w w3) (vk j) (ns.getD j rn0).kids := fun j hj => (hv.kids j hj).keepT (fun k cs hF hb => hold k (hv.lt k hF) (blk_ne hb hv.row (by decide))) (fun k hF => .inl hF)
    rw [rSet_at hpn j hj]
    by_cases hji : j = i
    · rw [if_pos hji, if_neg (by omega)]; exact hkk j hj
    · rw [if_neg hji]
      by_cases hjp : j = p
      · subst hjp
        rw [if_pos rfl, if_pos rfl]
        exact hrow.keep (fun k hk _ => hset k (by omega)) (fun k hk => .inr ⟨hk.1, by rw [hsz]; exact hk.2⟩)
      · rw [if_neg hjp, if_neg hjp]; exact hkk j hj
  · exact hv.opn.keepT (fun k cs hF hb => hold k (hv.lt k hF) (blk_ne hb hv.row (by decide))) (fun k hF => .inl hF)
  · intro j b hj h3
    rw [rSet_len] at hj
    by_cases hjp : j = p
    · rw [if_pos hjp] at h3
      intro h4
      have h5 := hrow.blk_in b h3
      have h6 := hv.lt b (hv.opn.blk_in b h4)
      omega
    · rw [if_neg hjp] at h3; exact hv.apart j b hj h3
  · rintro k (hk | hk)
    · exact Nat.lt_of_lt_of_le (hv.lt k hk) hm.size
    · exact hk.2
  · intro j hj
    rw [rSet_len] at hj ⊢
    rw [rSet_at hpn j hj]
    have h5 := hv.ksmall j hj
    split
    · exact h5
    · split
      · rename_i hjp; subst hjp
        show ((ns.getD j rn0).kids ++ [(i : Int)]).length ≤ _
        rw [List.length_append]; exact hk
      · exact h5
  · intro j hj
    rw [rSet_len] at hj
    rw [rSet_at hpn j hj]
    have h5 := hv.par j hj
    split
    · rename_i hji; subst hji; show (p : Int) < _ ∧ (-1 : Int) ≤ (p : Int); omega
    · split <;> exact h5
  · intro j hj
    rw [rSet_len] at hj
    rw [rSet_at hpn j hj]
    have h5 := hv.knd j hj
    split
    · exact h5
    · split <;> exact h5
  · intro x hx
    rw [rSet_len]; exact hv.opv x hx
  · intro j hj x hx
    rw [rSet_len] at hj
    rw [rSet_at hpn j hj] at hx
    have h5 := hv.kpos j hj
    split at hx
    · exact h5 x hx
    · split at hx
      · rcases List.mem_append.1 hx with hx | hx
        · exact h5 x hx
        · simp at hx; omega
      · exact h5 x hx
theorem own_shape {w : World} {B e size n : Nat} {v : Value} {xs : List Value} (h : w.ownsRow B e size v n xs) : ∃ A c, v = .slice A n c := by
  obtain ⟨h0, ⟨rfl, rfl⟩ | ⟨g, cap, cur, rfl, _⟩⟩ := h
  · exact ⟨_, _, rfl⟩
  · exact ⟨_, _, rfl⟩
theorem own_blk {w : World} {B e size n : Nat} {A : Option Addr} {c : Nat} {xs : List Value} (h : w.ownsRow B e size (.slice A n c) n xs) : ∀ k, (Value.slice A n c).ownBlock = some k → B ≤ k := fun k hk => (h.lt k hk).1
/-- Only the row of one's own has turned. -/
theorem bel_row {w a c : World} {r : Option Nat} (h : Bel w a) (g : a.grownBy c r) (hr : ∀ k, r = some k → w.heap.size ≤ k) : Bel w c :=
  ⟨g.os.trans h.os, g.tape.trans h.tape, g.output.trans h.output, Nat.le_trans h.size g.size, fun k hk => (g.block k (Nat.lt_of_lt_of_le hk h.size) (fun e => by have := hr k e.symm; omega)).trans (h.block k hk)⟩
theorem infoInt : (Tryz.prog.info? 3).map (fun i => (i.zero, i.size, i.bytes)) = some (some (.int .i64 0), 1, 8) := by kernel_rfl
set_option maxRecDepth 100000 in
set_option maxHeartbeats 4000000 in
theorem rLay_c (h : SRep w F sp ns op) (p i : Nat) (hpi : p < i) (hi : i < ns.length) (hp : (ns.getD i rn0).parent = -1) (hk : (ns.getD p rn0).kids.length + 1 ≤ ns.length) :
    Calls Tryz.prog 197 #[.pointer (some ⟨sp, 0, none⟩), .int .i64 p, .int .i64 (-1), .int .i64 i] w fun e w' => e = .returned (.tuple #[]) ∧ Mut F w w' ∧ SRep w' (grow F w w') sp (rSet ns p i) op := by
  obtain ⟨i0, hinf, hz0, hz1, hz2⟩ := info_parts infoInt
  have h' := h
  obtain ⟨g, cap, cur, vk, vo, md, hd, qk, hv⟩ := h
  have hsmall := hv.small
  have HAB := Lib.hid (fun (q : Int) (h0 : 0 ≤ q) (h1 : q < (ns.length : Int)) => rAbove_c h' q h0 h1)
  have HPR := Lib.hid hv.par
  have HOF := Lib.hid (rOff_c h' (i : Int) (by omega) (by omega) (by simpa using hp))
  have HFIN := Lib.hid (fun W v (hbw : Bel w W) hrow => rf_laid hv hbw (v := v) hpi hi hrow hk)
  have c0 : w.cell? ⟨sp, 0, none⟩ = some (.slice (some ⟨g, 0, none⟩) ns.length cap) := hv.c 0
  have hpl : p < ns.length := by omega
  have c8 : w.cell? ⟨g, p * 11 + 8, none⟩ = some (vk p) := by rw [blk_cell hv.row]; exact (hv.col p hpl).2.2.2.2
  have c6 : w.cell? ⟨g, i * 11 + 6, none⟩ = some (.int .i64 (ns.getD i rn0).parent) := by rw [blk_cell hv.row]; exact (hv.col i hi).2.2.2.1
  have hkr := hv.kids p hpl
  have hkp := hv.kpos p hpl
  have hrf := hv.rf
  have spl := hv.lt sp hv.Fs; have gl := hv.lt g hv.Fg
  have HKF := Lib.hid (fun k (hk : (vk p).ownBlock = some k) => hv.lt k ((hv.kids p hpl).blk_in k hk))
  clear hv h' hp
  generalize hks : (ns.getD p rn0).kids = ks at *
  generalize vk p = vp at *
  go_enter Tryz.func197, Tryz.ntmps197
  go_wp2
  go_loopw [8] (fun x wr => wr = w ∧ ∃ q : Int, x = .int .i64 q ∧ -1 ≤ q ∧ q < (i : Int)) (fun x _ => (intOf x + 1).toNat)
  case atStart => exact ⟨rfl, (p : Int), rfl, by omega, by omega⟩
  case round =>
    obtain ⟨rfl, q, rfl, hq0, hq1⟩ := hrel
    by_cases hq : 0 ≤ q
    · have hpq := HPR.out q.toNat (by omega)
      have hab := HAB.out q hq (by omega)
      have HAB2 := Lib.hid hab
      have hqi : (q == (i : Int)) = false := by simp; omega
      clear hab
      generalize (ns.getD q.toNat rn0).parent = pp at *
      go_wp2_with (go_at_call 216; refine HAB2.out.mono ?_; rintro e w' ⟨rfl, rfl⟩)
      go_roundw
      case rel => exact ⟨trivial, pp, rfl, by omega, by omega⟩
      case measure => simp [intOf]; omega
    · go_wp2_with (go_at_call 217; refine HOF.out.mono ?_; rintro e w' ⟨rfl, rfl⟩)
      have hone : ∀ x : Int, ∀ u ∈ [Value.int .i64 x], u.oneCell' = true := by intro x u hu; simp at hu; subst hu; rfl
      have hfin : ∀ W v, Bel wr W → W.ownsRow wr.heap.size 3 1 v (ks.length + 1) ((ks ++ [(i : Int)]).map (Value.int .i64)) → _ := fun W v hb ho => HFIN.out W v hb (intRow_of_own (by simpa using ho))
      have HF2 := Lib.hid hfin
      clear hfin HAB HPR HOF HFIN
      have hkl : ks.length ≤ 50 := by omega
      rcases hkr with ⟨rfl, rfl⟩ | ⟨gk, capk, curk, rfl, hFk, hbk, r1, r2, r3, r4⟩
      · refine wp_loop_rounds 1 ?_
        rw [rounds_succ]
        go_wp2_with (first
          | (at_builtin; refine wpList_append_own _ rfl (.tmp 69) (.tmp 71) 29 rfl wr.heap.size 3 i0 (.int .i64 0) 1 8 Tryz.underlying29 hinf hz0 hz1 hz2 rfl (by decide) _ 0 [] rfl (World.ownsRow_nil _ _ _ _) ⟨wr.heap.size, 0, none⟩ 1 1 [.int .i64 (i : Int)] rfl rfl (World.news_of_block (heap_alloc_new wr (.cells #[.int .i64 (i : Int)] 3 (0, 0)))) (hone _) (by decide) (by decide) (by simp) ?_; intro v' w1 hown1 hgrow1 hnn; clear hnn; obtain ⟨A9, c9, rfl⟩ := own_shape hown1; have hbw1 : Bel wr w1 := bel_grownB0 (bel_alloc wr _) hgrow1; have d0 := (hbw1.cell (p := ⟨sp, 0, none⟩) spl).trans c0; have d8 := (hbw1.cell (p := ⟨g, p * 11 + 8, none⟩) gl).trans c8; have d6 := (hbw1.cell (p := ⟨g, i * 11 + 6, none⟩) gl).trans c6; have e8 := (hbw1.frozen (p := ⟨g, p * 11 + 8, none⟩) gl).trans (hrf _); have e6 := (hbw1.frozen (p := ⟨g, i * 11 + 6, none⟩) gl).trans (hrf _))
          | go_in)
        go_end0
        exact ⟨rfl, HF2.out _ _ hbw1 hown1⟩
      · obtain ⟨wo, rfl⟩ : ∃ wo : World, wo = wr := ⟨_, rfl⟩
        have hgk : gk < wo.heap.size := HKF.out gk rfl
        have hkc : ∀ j, j < ks.length → wo.cell? ⟨gk, j, none⟩ = some (.int .i64 (ks.getD j 0)) := fun j hj => by rw [blk_cell hbk]; exact r4 j hj
        have HKC := Lib.hid hkc
        have hcapk : ks.length ≤ capk := r1
        have HC0 := Lib.hid c0; have HC8 := Lib.hid c8; have HKP := Lib.hid hkp; have HRF := Lib.hid hrf; have HC6 := Lib.hid c6
        clear hkc r1 r2 r3 r4 hbk hkp c0 c8 c6 hrf
        go_loopw [9, 10] (fun v x wr => ∃ j : Nat, j ≤ ks.length ∧ x = .int .i64 j ∧ wr.ownsRow wo.heap.size 3 1 v j ((ks.take j).map (Value.int .i64)) ∧ Bel wo wr) (fun _ x _ => ks.length - (intOf x).toNat)
        case atStart => exact ⟨0, Nat.zero_le _, rfl, World.ownsRow_nil _ _ _ _, Below.refl _ _⟩
        case round =>
          obtain ⟨j, hj, rfl, hown, hb2⟩ := hrel
          have d0 := (hb2.cell (p := ⟨sp, 0, none⟩) spl).trans HC0.out; have d8 := (hb2.cell (p := ⟨g, p * 11 + 8, none⟩) gl).trans HC8.out
          obtain ⟨A8, c8', rfl⟩ := own_shape hown
          have hwb := own_blk hown
          have HWB := Lib.hid hwb
          clear hwb
          by_cases hjl : j < ks.length
          · have dk := (hb2.cell (p := ⟨gk, j, none⟩) hgk).trans (HKC.out j hjl)
            have hx0 : (0 : Int) ≤ ks.getD j 0 := HKP.out _ (by rw [List.getD_eq_getElem?_getD, List.getElem?_eq_getElem hjl]; exact List.getElem_mem hjl)
            have htk : ks.take (j + 1) = ks.take j ++ [ks.getD j 0] := by
              rw [List.getD_eq_getElem?_getD, List.getElem?_eq_getElem hjl]; exact List.take_succ_eq_append_getElem hjl
            have HTK := Lib.hid htk
            clear htk
            generalize ks.getD j 0 = x at *
            have hxm : (x == -1) = false := by simp; omega
            go_wp2_with (first | (at_builtin; refine wpList_append_own _ rfl (.tmp 53) (.tmp 65) 29 rfl wo.heap.size 3 i0 (.int .i64 0) 1 8 Tryz.underlying29 hinf hz0 hz1 hz2 rfl (by decide) _ j _ rfl (hown.alloc _) ⟨wr.heap.size, 0, none⟩ 1 1 [.int .i64 x] rfl rfl (World.news_of_block (heap_alloc_new wr (.cells #[.int .i64 x] 3 (0, 0)))) (hone _) (by unfold maxLen; omega) (by omega) (by simp; exact Nat.le_of_lt_succ (Nat.lt_succ_of_le (Nat.le_succ_of_le hb2.size))) ?_; intro v' w1 hown1 hgrow1 hnn; clear hnn; obtain ⟨A9, c9, rfl⟩ := own_shape hown1; have hbw1 : Bel wo w1 := bel_row (bel_tr hb2 (bel_alloc wr _)) hgrow1 HWB.out; have d0 := (hbw1.cell (p := ⟨sp, 0, none⟩) spl).trans HC0.out; have d8 := (hbw1.cell (p := ⟨g, p * 11 + 8, none⟩) gl).trans HC8.out; have d6 := (hbw1.cell (p := ⟨g, i * 11 + 6, none⟩) gl).trans HC6.out; have e8 := (hbw1.frozen (p := ⟨g, p * 11 + 8, none⟩) gl).trans (HRF.out _); have e6 := (hbw1.frozen (p := ⟨g, i * 11 + 6, none⟩) gl).trans (HRF.out _)) | go_in)
            go_roundw
            case rel => exact ⟨j + 1, by omega, by go_num, by rw [HTK.out, List.map_append]; exact hown1, hbw1⟩
            case measure => simp [intOf]; omega
          · have hjk : j = ks.length := by omega
            subst hjk
            have hown2 := hown
            rw [List.take_length] at hown2
            clear hown
            have hown := hown2
            clear hown2
            go_wp2_with (first | (at_builtin; refine wpList_append_own _ rfl (.tmp 69) (.tmp 71) 29 rfl wo.heap.size 3 i0 (.int .i64 0) 1 8 Tryz.underlying29 hinf hz0 hz1 hz2 rfl (by decide) _ ks.length _ rfl (hown.alloc _) ⟨wr.heap.size, 0, none⟩ 1 1 [.int .i64 (i : Int)] rfl rfl (World.news_of_block (heap_alloc_new wr (.cells #[.int .i64 (i : Int)] 3 (0, 0)))) (hone _) (by unfold maxLen; omega) (by omega) (by simp; exact Nat.le_of_lt_succ (Nat.lt_succ_of_le (Nat.le_succ_of_le hb2.size))) ?_; intro v' w1 hown1 hgrow1 hnn; clear hnn; obtain ⟨A9, c9, rfl⟩ := own_shape hown1; have hbw1 : Bel wo w1 := bel_row (bel_tr hb2 (bel_alloc wr _)) hgrow1 HWB.out; have d0 := (hbw1.cell (p := ⟨sp, 0, none⟩) spl).trans HC0.out; have d8 := (hbw1.cell (p := ⟨g, p * 11 + 8, none⟩) gl).trans HC8.out; have d6 := (hbw1.cell (p := ⟨g, i * 11 + 6, none⟩) gl).trans HC6.out; have e8 := (hbw1.frozen (p := ⟨g, p * 11 + 8, none⟩) gl).trans (HRF.out _); have e6 := (hbw1.frozen (p := ⟨g, i * 11 + 6, none⟩) gl).trans (HRF.out _)) | go_in)
            go_end0
            exact ⟨rfl, HF2.out _ _ hbw1 (by rw [List.map_append]; exact hown1)⟩
end Go.Proofs.YtgaebaokcjhcdaaGreatDoor
