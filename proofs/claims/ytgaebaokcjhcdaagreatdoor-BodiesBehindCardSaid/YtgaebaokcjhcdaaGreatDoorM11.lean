/- bodies.starts, bodies.ends: the tables of rules. Printed by gentab.py. -/
import Derived.Test.YtgaebaokcjhcdaaGreatDoorM10

set_option linter.unusedVariables false
set_option linter.unusedSimpArgs false
namespace Go.Proofs.YtgaebaokcjhcdaaGreatDoor
open Go.RowKit Lz Go.Maps

def startNames : List Str := [⟨#[104, 116, 109, 108]⟩, ⟨#[98, 97, 115, 101, 32, 98, 97, 115, 101, 102, 111, 110, 116, 32, 98, 103, 115, 111, 117, 110, 100, 32, 108, 105, 110, 107, 32, 109, 101, 116, 97, 32, 110, 111, 102, 114, 97, 109, 101, 115, 32, 115, 99, 114, 105, 112, 116, 32, 115, 116, 121, 108, 101, 32, 116, 101, 109, 112, 108, 97, 116, 101, 32, 116, 105, 116, 108, 101]⟩, ⟨#[98, 111, 100, 121]⟩, ⟨#[102, 114, 97, 109, 101, 115, 101, 116, 32, 99, 97, 112, 116, 105, 111, 110, 32, 99, 111, 108, 32, 99, 111, 108, 103, 114, 111, 117, 112, 32, 102, 114, 97, 109, 101, 32, 104, 101, 97, 100, 32, 116, 98, 111, 100, 121, 32, 116, 100, 32, 116, 102, 111, 111, 116, 32, 116, 104, 32, 116, 104, 101, 97, 100, 32, 116, 114]⟩, ⟨#[97, 100, 100, 114, 101, 115, 115, 32, 97, 114, 116, 105, 99, 108, 101, 32, 97, 115, 105, 100, 101, 32, 98, 108, 111, 99, 107, 113, 117, 111, 116, 101, 32, 99, 101, 110, 116, 101, 114, 32, 100, 101, 116, 97, 105, 108, 115, 32, 100, 105, 97, 108, 111, 103, 32, 100, 105, 114, 32, 100, 105, 118, 32, 100, 108, 32, 102, 105, 101, 108, 100, 115, 101, 116, 32, 102, 105, 103, 99, 97, 112, 116, 105, 111, 110, 32, 102, 105, 103, 117, 114, 101]⟩, ⟨#[102, 111, 111, 116, 101, 114, 32, 104, 101, 97, 100, 101, 114, 32, 104, 103, 114, 111, 117, 112, 32, 109, 97, 105, 110, 32, 109, 101, 110, 117, 32, 110, 97, 118, 32, 111, 108, 32, 112, 32, 115, 101, 97, 114, 99, 104, 32, 115, 101, 99, 116, 105, 111, 110, 32, 115, 117, 109, 109, 97, 114, 121, 32, 117, 108]⟩, ⟨#[104, 49, 32, 104, 50, 32, 104, 51, 32, 104, 52, 32, 104, 53, 32, 104, 54]⟩, ⟨#[112, 114, 101, 32, 108, 105, 115, 116, 105, 110, 103]⟩, ⟨#[102, 111, 114, 109]⟩, ⟨#[108, 105]⟩, ⟨#[100, 100, 32, 100, 116]⟩, ⟨#[112, 108, 97, 105, 110, 116, 101, 120, 116]⟩, ⟨#[98, 117, 116, 116, 111, 110]⟩, ⟨#[97]⟩, ⟨#[98, 32, 98, 105, 103, 32, 99, 111, 100, 101, 32, 101, 109, 32, 102, 111, 110, 116, 32, 105, 32, 115, 32, 115, 109, 97, 108, 108, 32, 115, 116, 114, 105, 107, 101, 32, 115, 116, 114, 111, 110, 103, 32, 116, 116, 32, 117]⟩, ⟨#[110, 111, 98, 114]⟩, ⟨#[97, 112, 112, 108, 101, 116, 32, 109, 97, 114, 113, 117, 101, 101, 32, 111, 98, 106, 101, 99, 116]⟩, ⟨#[116, 97, 98, 108, 101]⟩, ⟨#[97, 114, 101, 97, 32, 98, 114, 32, 101, 109, 98, 101, 100, 32, 105, 109, 103, 32, 107, 101, 121, 103, 101, 110, 32, 119, 98, 114, 32, 105, 110, 112, 117, 116]⟩, ⟨#[112, 97, 114, 97, 109, 32, 115, 111, 117, 114, 99, 101, 32, 116, 114, 97, 99, 107]⟩, ⟨#[104, 114]⟩, ⟨#[105, 109, 97, 103, 101]⟩, ⟨#[116, 101, 120, 116, 97, 114, 101, 97]⟩, ⟨#[120, 109, 112, 32, 105, 102, 114, 97, 109, 101, 32, 110, 111, 101, 109, 98, 101, 100]⟩, ⟨#[115, 101, 108, 101, 99, 116]⟩, ⟨#[111, 112, 116, 103, 114, 111, 117, 112, 32, 111, 112, 116, 105, 111, 110]⟩, ⟨#[114, 98, 32, 114, 116, 99, 32, 114, 112, 32, 114, 116]⟩, ⟨#[109, 97, 116, 104, 32, 115, 118, 103]⟩]
def startRows (p0 p1 : Nat) : List (Str × Value) := [(⟨#[104, 116, 109, 108]⟩, .func (.func 66) #[] #[]),
  (⟨#[98, 97, 115, 101, 32, 98, 97, 115, 101, 102, 111, 110, 116, 32, 98, 103, 115, 111, 117, 110, 100, 32, 108, 105, 110, 107, 32, 109, 101, 116, 97, 32, 110, 111, 102, 114, 97, 109, 101, 115, 32, 115, 99, 114, 105, 112, 116, 32, 115, 116, 121, 108, 101, 32, 116, 101, 109, 112, 108, 97, 116, 101, 32, 116, 105, 116, 108, 101]⟩, .func (.func 68) #[] #[]),
  (⟨#[98, 111, 100, 121]⟩, .func (.func 69) #[] #[]),
  (⟨#[102, 114, 97, 109, 101, 115, 101, 116, 32, 99, 97, 112, 116, 105, 111, 110, 32, 99, 111, 108, 32, 99, 111, 108, 103, 114, 111, 117, 112, 32, 102, 114, 97, 109, 101, 32, 104, 101, 97, 100, 32, 116, 98, 111, 100, 121, 32, 116, 100, 32, 116, 102, 111, 111, 116, 32, 116, 104, 32, 116, 104, 101, 97, 100, 32, 116, 114]⟩, .func (.func 70) #[] #[]),
  (⟨#[97, 100, 100, 114, 101, 115, 115, 32, 97, 114, 116, 105, 99, 108, 101, 32, 97, 115, 105, 100, 101, 32, 98, 108, 111, 99, 107, 113, 117, 111, 116, 101, 32, 99, 101, 110, 116, 101, 114, 32, 100, 101, 116, 97, 105, 108, 115, 32, 100, 105, 97, 108, 111, 103, 32, 100, 105, 114, 32, 100, 105, 118, 32, 100, 108, 32, 102, 105, 101, 108, 100, 115, 101, 116, 32, 102, 105, 103, 99, 97, 112, 116, 105, 111, 110, 32, 102, 105, 103, 117, 114, 101]⟩, .func (.func 71) #[] #[]),
  (⟨#[102, 111, 111, 116, 101, 114, 32, 104, 101, 97, 100, 101, 114, 32, 104, 103, 114, 111, 117, 112, 32, 109, 97, 105, 110, 32, 109, 101, 110, 117, 32, 110, 97, 118, 32, 111, 108, 32, 112, 32, 115, 101, 97, 114, 99, 104, 32, 115, 101, 99, 116, 105, 111, 110, 32, 115, 117, 109, 109, 97, 114, 121, 32, 117, 108]⟩, .func (.func 71) #[] #[]),
  (⟨#[104, 49, 32, 104, 50, 32, 104, 51, 32, 104, 52, 32, 104, 53, 32, 104, 54]⟩, .func (.func 72) #[] #[]),
  (⟨#[112, 114, 101, 32, 108, 105, 115, 116, 105, 110, 103]⟩, .func (.func 73) #[] #[]),
  (⟨#[102, 111, 114, 109]⟩, .func (.func 74) #[] #[]),
  (⟨#[108, 105]⟩, .func (.func 143) #[] #[.pointer (some ⟨p0, 0, none⟩)]),
  (⟨#[100, 100, 32, 100, 116]⟩, .func (.func 143) #[] #[.pointer (some ⟨p1, 0, none⟩)]),
  (⟨#[112, 108, 97, 105, 110, 116, 101, 120, 116]⟩, .func (.func 76) #[] #[]),
  (⟨#[98, 117, 116, 116, 111, 110]⟩, .func (.func 77) #[] #[]),
  (⟨#[97]⟩, .func (.func 78) #[] #[]),
  (⟨#[98, 32, 98, 105, 103, 32, 99, 111, 100, 101, 32, 101, 109, 32, 102, 111, 110, 116, 32, 105, 32, 115, 32, 115, 109, 97, 108, 108, 32, 115, 116, 114, 105, 107, 101, 32, 115, 116, 114, 111, 110, 103, 32, 116, 116, 32, 117]⟩, .func (.func 79) #[] #[]),
  (⟨#[110, 111, 98, 114]⟩, .func (.func 80) #[] #[]),
  (⟨#[97, 112, 112, 108, 101, 116, 32, 109, 97, 114, 113, 117, 101, 101, 32, 111, 98, 106, 101, 99, 116]⟩, .func (.func 81) #[] #[]),
  (⟨#[116, 97, 98, 108, 101]⟩, .func (.func 82) #[] #[]),
  (⟨#[97, 114, 101, 97, 32, 98, 114, 32, 101, 109, 98, 101, 100, 32, 105, 109, 103, 32, 107, 101, 121, 103, 101, 110, 32, 119, 98, 114, 32, 105, 110, 112, 117, 116]⟩, .func (.func 83) #[] #[]),
  (⟨#[112, 97, 114, 97, 109, 32, 115, 111, 117, 114, 99, 101, 32, 116, 114, 97, 99, 107]⟩, .func (.func 84) #[] #[]),
  (⟨#[104, 114]⟩, .func (.func 85) #[] #[]),
  (⟨#[105, 109, 97, 103, 101]⟩, .func (.func 86) #[] #[]),
  (⟨#[116, 101, 120, 116, 97, 114, 101, 97]⟩, .func (.func 87) #[] #[]),
  (⟨#[120, 109, 112, 32, 105, 102, 114, 97, 109, 101, 32, 110, 111, 101, 109, 98, 101, 100]⟩, .func (.func 88) #[] #[]),
  (⟨#[115, 101, 108, 101, 99, 116]⟩, .func (.func 89) #[] #[]),
  (⟨#[111, 112, 116, 103, 114, 111, 117, 112, 32, 111, 112, 116, 105, 111, 110]⟩, .func (.func 90) #[] #[]),
  (⟨#[114, 98, 32, 114, 116, 99, 32, 114, 112, 32, 114, 116]⟩, .func (.func 91) #[] #[]),
  (⟨#[109, 97, 116, 104, 32, 115, 118, 103]⟩, .func (.func 92) #[] #[])]
theorem startNames_eq (p0 p1 : Nat) : (startRows p0 p1).map (·.1) = startNames := rfl
set_option maxRecDepth 100000 in
theorem startPlain (p0 p1 : Nat) : Plain64 (startRows p0 p1) := plain_of (by rw [startNames_eq]; exact (by decide +kernel : plainB startNames = true))
def endNames : List Str := [⟨#[116, 101, 109, 112, 108, 97, 116, 101]⟩, ⟨#[98, 111, 100, 121, 32, 104, 116, 109, 108]⟩, ⟨#[97, 100, 100, 114, 101, 115, 115, 32, 97, 114, 116, 105, 99, 108, 101, 32, 97, 115, 105, 100, 101, 32, 98, 108, 111, 99, 107, 113, 117, 111, 116, 101, 32, 98, 117, 116, 116, 111, 110, 32, 99, 101, 110, 116, 101, 114, 32, 100, 101, 116, 97, 105, 108, 115, 32, 100, 105, 97, 108, 111, 103, 32, 100, 105, 114, 32, 100, 105, 118, 32, 100, 108, 32, 102, 105, 101, 108, 100, 115, 101, 116, 32, 102, 105, 103, 99, 97, 112, 116, 105, 111, 110, 32, 102, 105, 103, 117, 114, 101]⟩, ⟨#[102, 111, 111, 116, 101, 114, 32, 104, 101, 97, 100, 101, 114, 32, 104, 103, 114, 111, 117, 112, 32, 108, 105, 115, 116, 105, 110, 103, 32, 109, 97, 105, 110, 32, 109, 101, 110, 117, 32, 110, 97, 118, 32, 111, 108, 32, 112, 114, 101, 32, 115, 101, 97, 114, 99, 104, 32, 115, 101, 99, 116, 105, 111, 110, 32, 115, 101, 108, 101, 99, 116, 32, 115, 117, 109, 109, 97, 114, 121, 32, 117, 108]⟩, ⟨#[102, 111, 114, 109]⟩, ⟨#[112]⟩, ⟨#[108, 105]⟩, ⟨#[100, 100, 32, 100, 116]⟩, ⟨#[104, 49, 32, 104, 50, 32, 104, 51, 32, 104, 52, 32, 104, 53, 32, 104, 54]⟩, ⟨#[97, 32, 98, 32, 98, 105, 103, 32, 99, 111, 100, 101, 32, 101, 109, 32, 102, 111, 110, 116, 32, 105, 32, 110, 111, 98, 114, 32, 115, 32, 115, 109, 97, 108, 108, 32, 115, 116, 114, 105, 107, 101, 32, 115, 116, 114, 111, 110, 103, 32, 116, 116, 32, 117]⟩, ⟨#[97, 112, 112, 108, 101, 116, 32, 109, 97, 114, 113, 117, 101, 101, 32, 111, 98, 106, 101, 99, 116]⟩, ⟨#[98, 114]⟩]
def endRows (p0 p1 : Nat) : List (Str × Value) := [(⟨#[116, 101, 109, 112, 108, 97, 116, 101]⟩, .func (.func 68) #[] #[]),
  (⟨#[98, 111, 100, 121, 32, 104, 116, 109, 108]⟩, .func (.func 94) #[] #[]),
  (⟨#[97, 100, 100, 114, 101, 115, 115, 32, 97, 114, 116, 105, 99, 108, 101, 32, 97, 115, 105, 100, 101, 32, 98, 108, 111, 99, 107, 113, 117, 111, 116, 101, 32, 98, 117, 116, 116, 111, 110, 32, 99, 101, 110, 116, 101, 114, 32, 100, 101, 116, 97, 105, 108, 115, 32, 100, 105, 97, 108, 111, 103, 32, 100, 105, 114, 32, 100, 105, 118, 32, 100, 108, 32, 102, 105, 101, 108, 100, 115, 101, 116, 32, 102, 105, 103, 99, 97, 112, 116, 105, 111, 110, 32, 102, 105, 103, 117, 114, 101]⟩, .func (.func 95) #[] #[]),
  (⟨#[102, 111, 111, 116, 101, 114, 32, 104, 101, 97, 100, 101, 114, 32, 104, 103, 114, 111, 117, 112, 32, 108, 105, 115, 116, 105, 110, 103, 32, 109, 97, 105, 110, 32, 109, 101, 110, 117, 32, 110, 97, 118, 32, 111, 108, 32, 112, 114, 101, 32, 115, 101, 97, 114, 99, 104, 32, 115, 101, 99, 116, 105, 111, 110, 32, 115, 101, 108, 101, 99, 116, 32, 115, 117, 109, 109, 97, 114, 121, 32, 117, 108]⟩, .func (.func 95) #[] #[]),
  (⟨#[102, 111, 114, 109]⟩, .func (.func 96) #[] #[]),
  (⟨#[112]⟩, .func (.func 97) #[] #[]),
  (⟨#[108, 105]⟩, .func (.func 156) #[] #[.pointer (some ⟨p0, 0, none⟩)]),
  (⟨#[100, 100, 32, 100, 116]⟩, .func (.func 156) #[] #[.pointer (some ⟨p1, 0, none⟩)]),
  (⟨#[104, 49, 32, 104, 50, 32, 104, 51, 32, 104, 52, 32, 104, 53, 32, 104, 54]⟩, .func (.func 99) #[] #[]),
  (⟨#[97, 32, 98, 32, 98, 105, 103, 32, 99, 111, 100, 101, 32, 101, 109, 32, 102, 111, 110, 116, 32, 105, 32, 110, 111, 98, 114, 32, 115, 32, 115, 109, 97, 108, 108, 32, 115, 116, 114, 105, 107, 101, 32, 115, 116, 114, 111, 110, 103, 32, 116, 116, 32, 117]⟩, .func (.func 100) #[] #[]),
  (⟨#[97, 112, 112, 108, 101, 116, 32, 109, 97, 114, 113, 117, 101, 101, 32, 111, 98, 106, 101, 99, 116]⟩, .func (.func 101) #[] #[]),
  (⟨#[98, 114]⟩, .func (.func 102) #[] #[])]
theorem endNames_eq (p0 p1 : Nat) : (endRows p0 p1).map (·.1) = endNames := rfl
set_option maxRecDepth 100000 in
theorem endPlain (p0 p1 : Nat) : Plain64 (endRows p0 p1) := plain_of (by rw [endNames_eq]; exact (by decide +kernel : plainB endNames = true))

/-- What bodies.starts hands back: the names' rules; the items' closures have the names that stand there. -/
def StartsIs (w w' : World) (B p0 p1 : Nat) : Prop := ∃ m D', w'.ownsMap Tryz.prog 9 heldR B m D' ∧ OutIs D' (hitOf (startRows p0 p1) fun _ => true) ∧ Bel w w' ∧
  w.heap.size ≤ p0 ∧ w.heap.size ≤ p1 ∧ ∃ q0 q1, w.heap.size ≤ q0 ∧ w.heap.size ≤ q1 ∧ w'.heap[p0]? = some (.cells #[.slice (some ⟨q0, 0, none⟩) 1 1] 40 (0, 0)) ∧ w'.heap[q0]? = some (.cells #[.string n_li] 9 (0, 0)) ∧
    w'.heap[p1]? = some (.cells #[.slice (some ⟨q1, 0, none⟩) 2 2] 40 (0, 0)) ∧ w'.heap[q1]? = some (.cells #[.string n_dd, .string n_dt] 9 (0, 0))
def EndsIs (w w' : World) (B p0 p1 : Nat) : Prop := ∃ m D', w'.ownsMap Tryz.prog 9 heldR B m D' ∧ OutIs D' (hitOf (endRows p0 p1) fun _ => true) ∧ Bel w w' ∧
  w.heap.size ≤ p0 ∧ w.heap.size ≤ p1 ∧ w'.heap[p0]? = some (.cells #[.int .i64 1] 3 (0, 0)) ∧ w'.heap[p1]? = some (.cells #[.int .i64 0] 3 (0, 0))
/-- A row more of a map of one's own. -/
theorem grown_more {a b c : World} {B : Nat} (h : a.grownBy b (some B)) (k : b.grownBy c (some B)) : a.grownBy c (some B) := h.andThen k (fun j hj => .inr hj)
theorem grown_0 {a b c : World} {B : Nat} (h : a.grownBy b (some B)) (k : b.grownBy c none) : a.grownBy c (some B) := h.andThen k (fun j hj => by cases hj)
theorem hacc1 {w wk : World} (h : (w.alloc (.map #[] 0)).grownBy wk (some w.heap.size)) (h1 : 1 < w.heap.size) : wk.heap[1]? = w.heap[1]? :=
  (h.block 1 (by simp; omega) (by intro e; injection e with e; omega)).trans ((MapKept.heap_alloc w _).2 1 h1)
theorem bel_acc {w wk : World} (h : (w.alloc (.map #[] 0)).grownBy wk (some w.heap.size)) : Bel w wk := bel_grownB (bel_alloc w _) h (Nat.le_refl _)
theorem blk_thru {w2 w1 w3 : World} {p B : Nat} {o : Obj} (hb3 : Bel w1 w3) (hp : w2.grownBy w1 (some B)) (h : w2.heap[p]? = some o) (hne : B < p) : w3.heap[p]? = some o := by
  have hlt : p < w2.heap.size := (Array.getElem?_eq_some_iff.1 h).1
  exact (hb3.block p (Nat.lt_of_lt_of_le hlt hp.size)).trans ((hp.block p hlt (by intro e; injection e with e; omega)).trans h)
theorem two_blk {w w2 : World} {o o2 : Obj} (hg : (w.alloc o).grownBy w2 none) (hb : w2.heap[(w.alloc o).heap.size]? = some o2) : w2.heap[w.heap.size + 1]? = some o2 ∧ w2.heap[w.heap.size]? = some o :=
  ⟨by simpa using hb, (hg.block w.heap.size (by simp) (by simp)).trans (heap_alloc_new w o)⟩
theorem lt_al (w : World) (o : Obj) : w.heap.size < (w.alloc o).heap.size := by simp
theorem grown_al {a b : World} {B : Nat} (h : a.grownBy b (some B)) (o : Obj) : a.grownBy (b.alloc o) (some B) := h.andThen (World.grownBy_alloc b o none) (fun j hj => by cases hj)
set_option maxRecDepth 100000 in
set_option maxHeartbeats 4000000 in
theorem ends_c (w : World) (htab : Lib.TabIs Tryz.prog w "strings.asciiSpace" .u8 Lib.asciiSpaceTab) (h1 : 1 < w.heap.size) :
    Calls Tryz.prog 31 #[] w fun e w' => ∃ B p0 p1, e = .returned (.map (some B)) ∧ EndsIs w w' B p0 p1 := by
  have hmm := @run_makeMap Tryz.prog
  have HT := Lib.hid htab; have HZ := Lib.hid h1
  clear htab h1
  have hown := World.ownsMap_made (H := Value) w Tryz.prog 9 heldR
  have hacc := World.grownBy.refl (w.alloc (.map #[] 0)) (some w.heap.size)
  go_enter Tryz.func31, Tryz.ntmps31
  go_wp2_with (first
    | (go_at_call 98; (refine (endItem_c _ _).mono ?_; rintro e w2 ⟨rfl, hg2, hb2, hs2⟩; replace hown := hown.kept hg2 (by simp); have hps := Nat.lt_of_lt_of_le (lt_al w _) hacc.size; replace hacc := grown_0 hacc hg2; (try (replace hp := grown_0 hp hg2)); (first | (have _h := hp; have hq := World.grownBy.refl w2 (some w.heap.size); have HQ := Lib.hid hb2; have HSQ := Lib.hid hs2) | (have hp := World.grownBy.refl w2 (some w.heap.size); have HP := Lib.hid hb2; have HSP := Lib.hid hs2)); clear hg2 hb2 hs2))
    | (go_at_call 65; go_loud (refine (table_c _ _ _ _ (endRows _ _) hown (rowsOK_of (endPlain _ _).apart) (endPlain _ _) (tabIs_of HT.out (hacc1 hacc HZ.out)) (Nat.lt_of_lt_of_le HZ.out (Nat.le_trans (Nat.le_of_lt (lt_al w _)) hacc.size))).mono ?_; rintro e w3 ⟨B, m, D', rfl, ho, hO, hb3⟩))
    | (refine wpList_insert_own _ rfl _ _ _ 65 rfl 9 64 keysL Tryz.underlying65 heldR _ _ _ rfl hown (by unfold maxLen; omega) _ _ _ rfl rfl (Go.WideMaps.keyOf_string_mk Tryz.underlying9 (by unfold maxLen; decide)) _ [] rfl ?_; clear hown; intro w1 hown hgr; (try (replace hp := grown_more hp hgr)); (try (replace hq := grown_more hq hgr)); replace hacc := grown_more hacc hgr; clear hgr)
    | go_in)
  go_ret
  exact ⟨B, _, _, rfl, m, D', ho, hO, bel_tr (bel_acc hacc) hb3, Nat.le_of_lt ‹_›, Nat.le_of_lt ‹_›, blk_thru hb3 hp HP.out ‹_›, blk_thru hb3 hq HQ.out ‹_›⟩
set_option maxRecDepth 100000 in
set_option maxHeartbeats 8000000 in
theorem starts_c (w : World) (htab : Lib.TabIs Tryz.prog w "strings.asciiSpace" .u8 Lib.asciiSpaceTab) (h1 : 1 < w.heap.size) :
    Calls Tryz.prog 29 #[] w fun e w' => ∃ B p0 p1, e = .returned (.map (some B)) ∧ StartsIs w w' B p0 p1 := by
  have hmm := @run_makeMap Tryz.prog
  have HT := Lib.hid htab; have HZ := Lib.hid h1
  clear htab h1
  have hown := World.ownsMap_made (H := Value) w Tryz.prog 9 heldR
  have hacc := World.grownBy.refl (w.alloc (.map #[] 0)) (some w.heap.size)
  go_enter Tryz.func29, Tryz.ntmps29
  go_wp2_with (first
    | (go_at_call 75; refine (item_c _ _ _ _).mono ?_; rintro e w2 ⟨rfl, hg2, hb2, hs2⟩; replace hown := (hown.alloc _).kept hg2 (by simp); have hps := Nat.lt_of_lt_of_le (lt_al w _) hacc.size; (try (replace hp := grown_0 (grown_al hp _) hg2)); (first | (have _h := hp; have hq := World.grownBy.refl w2 (some w.heap.size); have HQ := Lib.hid (two_blk hg2 hb2)) | (have hp := World.grownBy.refl w2 (some w.heap.size); have HP := Lib.hid (two_blk hg2 hb2))); replace hacc := grown_0 (grown_al hacc _) hg2; clear hg2 hb2 hs2)
    | (go_at_call 65; go_loud (refine (table_c _ _ _ _ (startRows _ _) hown (rowsOK_of (startPlain _ _).apart) (startPlain _ _) (tabIs_of HT.out (hacc1 hacc HZ.out)) (Nat.lt_of_lt_of_le HZ.out (Nat.le_trans (Nat.le_of_lt (lt_al w _)) hacc.size))).mono ?_; rintro e w3 ⟨B, m, D', rfl, ho, hO, hb3⟩))
    | (refine wpList_insert_own _ rfl _ _ _ 65 rfl 9 64 keysL Tryz.underlying65 heldR _ _ _ rfl hown (by unfold maxLen; omega) _ _ _ rfl rfl (Go.WideMaps.keyOf_string_mk Tryz.underlying9 (by unfold maxLen; decide)) _ [] rfl ?_; clear hown; intro w1 hown hgr; (try (replace hp := grown_more hp hgr)); (try (replace hq := grown_more hq hgr)); replace hacc := grown_more hacc hgr; clear hgr)
    | go_in)
  go_ret
  exact ⟨B, _, _, rfl, m, D', ho, hO, bel_tr (bel_acc hacc) hb3, Nat.le_succ_of_le (Nat.le_of_lt ‹_›), Nat.le_succ_of_le (Nat.le_of_lt ‹_›), _, _, Nat.le_of_lt ‹_›, Nat.le_of_lt ‹_›, blk_thru hb3 hp HP.out.1 (Nat.lt_succ_of_lt ‹_›), blk_thru hb3 hp HP.out.2 ‹_›, blk_thru hb3 hq HQ.out.1 (Nat.lt_succ_of_lt ‹_›), blk_thru hb3 hq HQ.out.2 ‹_›⟩

end Go.Proofs.YtgaebaokcjhcdaaGreatDoor

/- The builder: steps that follow each other, all told from one start. -/
set_option linter.unusedVariables false
set_option linter.unusedSimpArgs false
namespace Go.Proofs.YtgaebaokcjhcdaaGreatDoor
open Go.RowKit Lz

/-- Since w0 only blocks of F, and new ones, have turned; the builder reads as s. -/
structure BS (w0 : World) (F : Nat → Prop) (w : World) (b a st l : Nat) (s : St) : Prop where
  mtd : Mut F w0 w
  rep : BR w (grow F w0 w) b a st l s
  lt : ∀ k, F k → k < w0.heap.size

variable {w0 w w' : World} {F : Nat → Prop} {b a st l : Nat} {s s' : St}

theorem BR.start (h : BR w F b a st l s) (hlt : ∀ k, F k → k < w.heap.size) : BS w F w b a st l s := ⟨Mut.refl _ _, h.refl, hlt⟩
namespace BS
theorem bel (h : BS w0 F w b a st l s) (hb : Bel w w') : BS w0 F w' b a st l s :=
  let k := BR.trans (s1 := s) h.mtd (h.rep.ofBel hb); ⟨k.1, k.2, h.lt⟩
theorem next (h : BS w0 F w b a st l s) (k : Mut (grow F w0 w) w w' ∧ BR w' (grow (grow F w0 w) w w') b a st l s') : BS w0 F w' b a st l s' :=
  let r := BR.trans (s1 := s) h.mtd k; ⟨r.1, r.2, h.lt⟩
theorem glob (h : BS w0 F w b a st l s) : Glob w := by
  obtain ⟨_, ⟨Fa, Fs, Fl, Fb, vm, vk, hp, _⟩, _⟩ := h
  exact hp.glob
theorem al (h : BS w0 F w b a st l s) (o : Obj) : BS w0 F (w.alloc o) b a st l s := h.bel (bel_alloc w o)
theorem dr (h : BS w0 F w b a st l s) : BS w0 F w.drew b a st l s := h.bel (bel_dr (Below.refl _ _))
theorem size (h : BS w0 F w b a st l s) : w0.heap.size ≤ w.heap.size := h.mtd.size
theorem blt (h : BS w0 F w b a st l s) : ∀ k, grow F w0 w k → k < w.heap.size := fun k hk => hk.elim (fun hf => Nat.lt_of_lt_of_le (h.lt k hf) h.size) (fun h2 => h2.2)
/-- A new start, behind what is new. -/
theorem enter (h : BS w0 F w b a st l s) (hb : Bel w w') : BS w' (grow F w0 w) w' b a st l s := (h.rep.bel hb).start fun k hk => Nat.lt_of_lt_of_le (h.blt k hk) hb.size
theorem sub {w1 : World} (h : BS w0 F w b a st l s) (hb : Bel w w1) (k : BS w1 (grow F w0 w) w' b a st l s') : BS w0 F w' b a st l s' :=
  h.next ⟨(Mut.of_bel hb).trans (k.mtd.mono fun _ hk => .inl hk), k.rep.mono_ fun j hj => hj.elim .inl fun h2 => .inr ⟨Nat.le_trans hb.size h2.1, h2.2⟩⟩
/-- What is new at a start is kept. -/
theorem boxed {w1 : World} {o : Obj} (h : BS w0 F w b a st l s) (k : BS (w.alloc o) (grow F w0 w) w1 b a st l s') : ∀ j, w1.cell? ⟨w.heap.size, j, none⟩ = (w.alloc o).cell? ⟨w.heap.size, j, none⟩ :=
  fun j => World.cell?_of_block (a := ⟨w.heap.size, j, none⟩) (k.mtd.block w.heap.size (by simp) fun hk => Nat.lt_irrefl _ (h.blt _ hk))
/-- What no block of F holds stays. -/
theorem kept (h : BS w0 F w b a st l s) {k : Nat} (hk : k < w0.heap.size) (hF : ¬ F k) : w.heap[k]? = w0.heap[k]? := h.mtd.block k hk hF

theorem none_ (h : BS w0 F w b a st l s) :
    Calls Tryz.prog 44 #[.pointer (some ⟨b, 0, none⟩)] w fun e w' => e = .returned (.bool false) ∧ w = w' := bNone_c h.rep
theorem arena_ (h : BS w0 F w b a st l s) :
    Calls Tryz.prog 17 #[.pointer (some ⟨b, 0, none⟩)] w fun e w' => e = .returned (.pointer (some ⟨a, 0, none⟩)) ∧ w = w' := bArena_c h.rep
theorem stack_ (h : BS w0 F w b a st l s) :
    Calls Tryz.prog 19 #[.pointer (some ⟨b, 0, none⟩)] w fun e w' => e = .returned (.pointer (some ⟨st, 0, none⟩)) ∧ w = w' := bStack_c h.rep
theorem formats_ (h : BS w0 F w b a st l s) :
    Calls Tryz.prog 132 #[.pointer (some ⟨b, 0, none⟩)] w fun e w' => e = .returned (.pointer (some ⟨l, 0, none⟩)) ∧ w = w' := bFormats_c h.rep
theorem mode_ (h : BS w0 F w b a st l s) :
    Calls Tryz.prog 22 #[.pointer (some ⟨b, 0, none⟩)] w fun e w' => e = .returned (.int .i64 s.mode) ∧ w = w' := bMode_c h.rep
theorem set_ (h : BS w0 F w b a st l s) (m : Int) :
    Calls Tryz.prog 43 #[.pointer (some ⟨b, 0, none⟩), .int .i64 m] w fun e w' => e = .returned (.tuple #[]) ∧ BS w0 F w' b a st l { s with mode := m } :=
  (bSet_c h.rep m).mono fun e w' ⟨h1, h2⟩ => ⟨h1, h.next h2⟩
theorem setHead_ (h : BS w0 F w b a st l s) (m : Int) :
    Calls Tryz.prog 40 #[.pointer (some ⟨b, 0, none⟩), .int .i64 m] w fun e w' => e = .returned (.tuple #[]) ∧ BS w0 F w' b a st l { s with head := m } :=
  (bSetHead_c h.rep m).mono fun e w' ⟨h1, h2⟩ => ⟨h1, h.next h2⟩
theorem setQuirks_ (h : BS w0 F w b a st l s) (m : Bool) :
    Calls Tryz.prog 37 #[.pointer (some ⟨b, 0, none⟩), .bool m] w fun e w' => e = .returned (.tuple #[]) ∧ BS w0 F w' b a st l { s with quirks := m } :=
  (bSetQuirks_c h.rep m).mono fun e w' ⟨h1, h2⟩ => ⟨h1, h.next h2⟩
theorem fail_ (h : BS w0 F w b a st l s) (m : Int) :
    Calls Tryz.prog 116 #[.pointer (some ⟨b, 0, none⟩), .int .i64 m] w fun e w' => e = .returned (.tuple #[]) ∧ BS w0 F w' b a st l (s.fail m) :=
  (bFail_c h.rep m).mono fun e w' ⟨h1, h2⟩ => ⟨h1, h.next h2⟩
theorem target_ (h : BS w0 F w b a st l s) :
    Calls Tryz.prog 57 #[.pointer (some ⟨b, 0, none⟩)] w fun e w' => e = .returned (.int .i64 s.target) ∧ w = w' := bTarget_c h.rep
theorem current_ (h : BS w0 F w b a st l s) :
    Calls Tryz.prog 48 #[.pointer (some ⟨b, 0, none⟩)] w fun e w' => ∃ v, e = .returned v ∧ NodeVal w' (fun k => w.heap.size ≤ k) v (s.node s.top) ∧ BS w0 F w' b a st l s :=
  (bCurrent_c h.rep).mono fun e w' ⟨v, h1, h2, h3⟩ => ⟨v, h1, h2, h.bel h3⟩
theorem is_ (h : BS w0 F w b a st l s) (v : Value) (names : List Str) (hn : StrRow w v names) :
    Calls Tryz.prog 21 #[.pointer (some ⟨b, 0, none⟩), v] w fun e w' => e = .returned (.bool (s.is names)) ∧ BS w0 F w' b a st l s :=
  (bIs_c h.rep v names hn).mono fun e w' ⟨h1, h2⟩ => ⟨h1, h.bel h2⟩
theorem put_ (h : BS w0 F w b a st l s) (hf : s.foster = false) (i t : Int) :
    Calls Tryz.prog 60 #[.pointer (some ⟨b, 0, none⟩), .int .i64 i, .int .i64 t] w fun e w' => e = .returned (.tuple #[]) ∧ BS w0 F w' b a st l (s.put i t) :=
  (bPut_c h.rep hf i t).mono fun e w' ⟨h1, h2⟩ => ⟨h1, h.next h2⟩
theorem insert_ (h : BS w0 F w b a st l s) (hf : s.foster = false) (t : Tok) (A : Option Addr) (m c : Nat) (G : Nat → Prop) (hA : AttrRow w G (.slice A m c) t.attrs) (hal : t.attrs.length ≤ 1048576) (space : Int) (hroom : s.nodes.length + 2 ≤ 1048576) (htm : isTemplate (St.tagNd t space) = false) :
    Calls Tryz.prog 53 #[.pointer (some ⟨b, 0, none⟩), .agg #[.int .i64 t.kind, .string t.name, .string t.text, .slice A m c, .bool t.dup, .bool t.self, .bool t.quirks, .int .i64 t.frm, .int .i64 t.to], .int .i64 space] w
      fun e w' => e = .returned (.int .i64 s.insI) ∧ BS w0 F w' b a st l (s.ins t space) :=
  (bInsert_c h.rep hf t A m c G hA hal space hroom htm).mono fun e w' ⟨h1, h2⟩ => ⟨h1, h.next h2⟩
theorem imply_ (h : BS w0 F w b a st l s) (hf : s.foster = false) (name : Str) (hroom : s.nodes.length + 2 ≤ 1048576) (htm : (name == n_template) = false) :
    Calls Tryz.prog 38 #[.pointer (some ⟨b, 0, none⟩), .string name] w fun e w' => e = .returned (.int .i64 s.insI) ∧ BS w0 F w' b a st l (s.imply name) :=
  (bImply_c h.rep hf name hroom htm).mono fun e w' ⟨h1, h2⟩ => ⟨h1, h.next h2⟩
theorem only_ (h : BS w0 F w b a st l s) (hf : s.foster = false) (t : Tok) (A : Option Addr) (m c : Nat) (G : Nat → Prop) (hA : AttrRow w G (.slice A m c) t.attrs) (hal : t.attrs.length ≤ 1048576) (hroom : s.nodes.length + 2 ≤ 1048576) (htm : isTemplate (St.tagNd t 0) = false) :
    Calls Tryz.prog 152 #[.pointer (some ⟨b, 0, none⟩), .agg #[.int .i64 t.kind, .string t.name, .string t.text, .slice A m c, .bool t.dup, .bool t.self, .bool t.quirks, .int .i64 t.frm, .int .i64 t.to]] w
      fun e w' => e = .returned (.int .i64 s.onlyI) ∧ BS w0 F w' b a st l (s.only t) :=
  (bOnly_c h.rep hf t A m c G hA hal hroom htm).mono fun e w' ⟨h1, h2⟩ => ⟨h1, h.next h2⟩
theorem chars_ (h : BS w0 F w b a st l s) (hf : s.foster = false) (x : Str) (hroom : s.nodes.length + 2 ≤ 1048576) (htl : ∀ i, (nodeAt s.nodes i).text.size + x.size ≤ 9223372036854775807) :
    Calls Tryz.prog 25 #[.pointer (some ⟨b, 0, none⟩), .string x] w fun e w' => e = .returned (.tuple #[]) ∧ BS w0 F w' b a st l (s.chars x) :=
  (bChars_c h.rep hf x hroom htl).mono fun e w' ⟨h1, h2⟩ => ⟨h1, h.next h2⟩
theorem closeP_ (h : BS w0 F w b a st l s) (hN : ∀ k, (s.el k).name.size < 1000000) :
    Calls Tryz.prog 139 #[.pointer (some ⟨b, 0, none⟩)] w fun e w' => e = .returned (.tuple #[]) ∧ BS w0 F w' b a st l s.closeP :=
  (bCloseP_c h.rep hN).mono fun e w' ⟨h1, h2⟩ => ⟨h1, h.next h2⟩
theorem rebuild_none_ (h : BS w0 F w b a st l s) (hl : s.lost = s.fmts.length) :
    Calls Tryz.prog 24 #[.pointer (some ⟨b, 0, none⟩)] w fun e w' => e = .returned (.tuple #[]) ∧ BS w0 F w' b a st l s :=
  (bRebuild_none h.rep hl).mono fun e w' ⟨h1, h2⟩ => ⟨h1, h.next (by rw [rebuild_none hl] at h2; exact h2)⟩

/-! ### arena, stack and list behind the builder -/
theorem node_ (h : BS w0 F w b a st l s) (i : Int) :
    Calls Tryz.prog 46 #[.pointer (some ⟨a, 0, none⟩), .int .i64 i] w fun e w' => ∃ v, e = .returned v ∧ NodeVal w' (fun k => w.heap.size ≤ k) v (s.node i) ∧ BS w0 F w' b a st l s := by
  have h' := h
  obtain ⟨hm, ⟨Fa, Fs, Fl, Fb, vm, vk, hp, hF⟩, hlt⟩ := h
  exact (aNode_c hp.arena i).mono fun e w' ⟨v, h1, h2, h3⟩ => ⟨v, h1, h2, h'.bel h3⟩
theorem append_ (h : BS w0 F w b a st l s) (p i : Int) :
    Calls Tryz.prog 61 #[.pointer (some ⟨a, 0, none⟩), .int .i64 p, .int .i64 i] w fun e w' => e = .returned (.int .i64 (appendE s.nodes p i)) ∧ BS w0 F w' b a st l { s with nodes := appendN s.nodes p i } := by
  have h' := h
  obtain ⟨hm, ⟨Fa, Fs, Fl, Fb, vm, vk, hp, hF⟩, hlt⟩ := h
  exact (aAppend_c w Fa a s.nodes p i hp.arena).mono fun e w' ⟨h1, h2, h3⟩ => ⟨h1, h'.next (BR.ofArena hp hF h2 h3)⟩
theorem move_ (h : BS w0 F w b a st l s) (x y : Int) :
    Calls Tryz.prog 229 #[.pointer (some ⟨a, 0, none⟩), .int .i64 x, .int .i64 y] w fun e w' => e = .returned (.int .i64 (moveE s.nodes x y)) ∧ BS w0 F w' b a st l { s with nodes := moveN s.nodes x y } := by
  have h' := h
  obtain ⟨hm, ⟨Fa, Fs, Fl, Fb, vm, vk, hp, hF⟩, hlt⟩ := h
  exact (aMove_c w Fa a s.nodes x y hp.arena).mono fun e w' ⟨h1, h2, h3⟩ => ⟨h1, h'.next (BR.ofArena hp hF h2 h3)⟩
theorem add_ (h : BS w0 F w b a st l s) (G : Nat → Prop) (n : Nd) (va vk : Value) (hA : AttrRow w G va n.attrs) (hl : n.attrs.length ≤ 1048576) (hvk : ∃ A m c, vk = .slice A m c)
    (hk : kidKind n.kind = true) (hroom : s.nodes.length + 2 ≤ 1048576) (ht : isTemplate n = false) :
    Calls Tryz.prog 59 #[.pointer (some ⟨a, 0, none⟩), .agg (ndCells n va vk).toArray] w fun e w' => e = .returned (.int .i64 s.nodes.length) ∧ BS w0 F w' b a st l { s with nodes := addN s.nodes n } := by
  have h' := h
  obtain ⟨hm, ⟨Fa, Fs, Fl, Fb, vm, vkk, hp, hF⟩, hlt⟩ := h
  exact (aAdd_c w Fa a s.nodes G n va vk hp.arena hA hl hvk hk hroom ht).mono fun e w' ⟨h1, h2, h3⟩ => ⟨h1, h'.next (BR.ofArena hp hF h2 h3)⟩
theorem len_ (h : BS w0 F w b a st l s) :
    Calls Tryz.prog 20 #[.pointer (some ⟨st, 0, none⟩)] w fun e w' => e = .returned (.int .i64 s.stk.length) ∧ w = w' := by
  obtain ⟨hm, ⟨Fa, Fs, Fl, Fb, vm, vk, hp, hF⟩, hlt⟩ := h
  exact sLen_c hp.stack
theorem at_ (h : BS w0 F w b a st l s) (k : Int) :
    Calls Tryz.prog 49 #[.pointer (some ⟨st, 0, none⟩), .int .i64 k] w fun e w' => e = .returned (.int .i64 (s.at_ k)) ∧ w = w' := by
  obtain ⟨hm, ⟨Fa, Fs, Fl, Fb, vm, vk, hp, hF⟩, hlt⟩ := h
  exact sAt_c hp.stack k
theorem top_ (h : BS w0 F w b a st l s) :
    Calls Tryz.prog 111 #[.pointer (some ⟨st, 0, none⟩)] w fun e w' => e = .returned (.int .i64 s.top) ∧ w = w' := by
  obtain ⟨hm, ⟨Fa, Fs, Fl, Fb, vm, vk, hp, hF⟩, hlt⟩ := h
  exact sTop_c hp.stack
theorem index_ (h : BS w0 F w b a st l s) (i : Int) :
    Calls Tryz.prog 115 #[.pointer (some ⟨st, 0, none⟩), .int .i64 i] w fun e w' => e = .returned (.int .i64 (s.index i)) ∧ w = w' := by
  obtain ⟨hm, ⟨Fa, Fs, Fl, Fb, vm, vk, hp, hF⟩, hlt⟩ := h
  exact sIndex_c hp.stack i
theorem has_ (h : BS w0 F w b a st l s) (hN : ∀ k, (s.el k).name.size < 1000000) (which : Int) (v : Value) (names : List Str) (hn : StrRow w v names) :
    Calls Tryz.prog 145 #[.pointer (some ⟨st, 0, none⟩), .int .i64 which, v] w fun e w' => e = .returned (.bool (s.has which names)) ∧ BS w0 F w' b a st l s := by
  have h' := h
  obtain ⟨hm, ⟨Fa, Fs, Fl, Fb, vm, vk, hp, hF⟩, hlt⟩ := h
  exact (sHas_c hp.stack hp.glob hN which v names hn).mono fun e w' ⟨h1, h2⟩ => ⟨h1, h'.bel h2⟩
theorem hasNode_ (h : BS w0 F w b a st l s) (hN : ∀ k, (s.el k).name.size < 1000000) (which i : Int) :
    Calls Tryz.prog 155 #[.pointer (some ⟨st, 0, none⟩), .int .i64 which, .int .i64 i] w fun e w' => e = .returned (.bool (s.hasNode which i)) ∧ BS w0 F w' b a st l s := by
  have h' := h
  obtain ⟨hm, ⟨Fa, Fs, Fl, Fb, vm, vk, hp, hF⟩, hlt⟩ := h
  exact (sHasNode_c hp.stack hp.glob hN which i).mono fun e w' ⟨h1, h2⟩ => ⟨h1, h'.bel h2⟩
theorem pop_ (h : BS w0 F w b a st l s) :
    Calls Tryz.prog 41 #[.pointer (some ⟨st, 0, none⟩)] w fun e w' => e = .returned (.int .i64 s.top) ∧ BS w0 F w' b a st l s.pop := by
  have h' := h
  obtain ⟨hm, ⟨Fa, Fs, Fl, Fb, vm, vk, hp, hF⟩, hlt⟩ := h
  exact (sPop_c hp.stack).mono fun e w' ⟨h1, h2, h3⟩ => ⟨h1, h'.next (BR.ofStack hp hF h2 h3)⟩
theorem until__ (h : BS w0 F w b a st l s) (v : Value) (names : List Str) (hn : StrRow w v names) :
    Calls Tryz.prog 131 #[.pointer (some ⟨st, 0, none⟩), v] w fun e w' => e = .returned (.int .i64 (s.untilE names)) ∧ BS w0 F w' b a st l (s.until_ names) := by
  have h' := h
  obtain ⟨hm, ⟨Fa, Fs, Fl, Fb, vm, vk, hp, hF⟩, hlt⟩ := h
  exact (sUntil_c hp.stack v names hn).mono fun e w' ⟨h1, h2, h3⟩ => ⟨h1, h'.next (by rw [← until_eq s names]; exact BR.ofStack hp hF h2 h3)⟩
theorem implied_ (h : BS w0 F w b a st l s) (hN : ∀ k, (s.el k).name.size < 1000000) (but : Str) :
    Calls Tryz.prog 104 #[.pointer (some ⟨st, 0, none⟩), .string but] w fun e w' => e = .returned (.tuple #[]) ∧ BS w0 F w' b a st l (s.implied but) := by
  have h' := h
  obtain ⟨hm, ⟨Fa, Fs, Fl, Fb, vm, vk, hp, hF⟩, hlt⟩ := h
  exact (sImplied_c hp.stack hp.glob (fun k hk => hp.low k (.inr (.inl hk))) hN but).mono fun e w' ⟨h1, h2, h3⟩ => ⟨h1, h'.next (BR.ofStack hp hF h2 h3)⟩
theorem remove_ (h : BS w0 F w b a st l s) (i : Int) :
    Calls Tryz.prog 148 #[.pointer (some ⟨st, 0, none⟩), .int .i64 i] w fun e w' => e = .returned (.int .i64 (s.removeE i)) ∧ BS w0 F w' b a st l (s.remove i) := by
  have h' := h
  obtain ⟨hm, ⟨Fa, Fs, Fl, Fb, vm, vk, hp, hF⟩, hlt⟩ := h
  exact (sRemove_c hp.stack i).mono fun e w' ⟨h1, h2, h3⟩ => ⟨h1, h'.next (by
    have e0 : s.remove i = { s with stk := (s.remove i).stk } := by unfold St.remove; split <;> rfl
    rw [e0]; exact BR.ofStack hp hF h2 h3)⟩
theorem flen_ (h : BS w0 F w b a st l s) :
    Calls Tryz.prog 51 #[.pointer (some ⟨l, 0, none⟩)] w fun e w' => e = .returned (.int .i64 s.fmts.length) ∧ w = w' := by
  obtain ⟨hm, ⟨Fa, Fs, Fl, Fb, vm, vk, hp, hF⟩, hlt⟩ := h
  exact fLen_c hp.list
theorem findex_ (h : BS w0 F w b a st l s) (i : Int) :
    Calls Tryz.prog 187 #[.pointer (some ⟨l, 0, none⟩), .int .i64 i] w fun e w' => e = .returned (.int .i64 (s.findex i)) ∧ BS w0 F w' b a st l s := by
  have h' := h
  obtain ⟨hm, ⟨Fa, Fs, Fl, Fb, vm, vk, hp, hF⟩, hlt⟩ := h
  exact (fIndex_c hp.list i).mono fun e w' ⟨h1, h2⟩ => ⟨h1, h'.bel h2⟩
theorem flastName_ (h : BS w0 F w b a st l s) (name : Str) :
    Calls Tryz.prog 146 #[.pointer (some ⟨l, 0, none⟩), .string name] w fun e w' => e = .returned (.int .i64 (s.flastName name)) ∧ BS w0 F w' b a st l s := by
  have h' := h
  obtain ⟨hm, ⟨Fa, Fs, Fl, Fb, vm, vk, hp, hF⟩, hlt⟩ := h
  exact (fLastName_c hp.list hp.arena name).mono fun e w' ⟨h1, h2⟩ => ⟨h1, h'.bel h2⟩
theorem fremove_ (h : BS w0 F w b a st l s) (i : Int) :
    Calls Tryz.prog 147 #[.pointer (some ⟨l, 0, none⟩), .int .i64 i] w fun e w' => e = .returned (.int .i64 (s.fremoveE i)) ∧ BS w0 F w' b a st l (s.fremove i) := by
  have h' := h
  obtain ⟨hm, ⟨Fa, Fs, Fl, Fb, vm, vk, hp, hF⟩, hlt⟩ := h
  exact (fRemove_c hp.list i).mono fun e w' ⟨h1, h2, h3⟩ => ⟨h1, h'.next (by
    have e0 : s.fremove i = { s with fmts := (s.fremove i).fmts } := by unfold St.fremove St.fdel; split <;> rfl
    rw [e0]; exact BR.ofList hp hF h2 h3)⟩
theorem fpush_end_ (h : BS w0 F w b a st l s) (i : Int) (hop : s.fopen = s.fmts.length) :
    Calls Tryz.prog 149 #[.pointer (some ⟨l, 0, none⟩), .int .i64 i] w fun e w' => e = .returned (.int .i64 (s.fpushE i)) ∧ BS w0 F w' b a st l (s.fpush i) := by
  have h' := h
  obtain ⟨hm, ⟨Fa, Fs, Fl, Fb, vm, vk, hp, hF⟩, hlt⟩ := h
  exact (fPush_end hp.list hp.arena i hop).mono fun e w' ⟨h1, h2, h3⟩ => ⟨h1, h'.next (by
    have e0 : s.fpush i = { s with fmts := (s.fpush i).fmts } := by
      unfold St.fpush St.lay St.ffree St.fdel
      (repeat' split) <;> rfl
    rw [e0]; exact BR.ofList hp hF h2 h3)⟩
theorem finsert_end_ (h : BS w0 F w b a st l s) (i : Int) :
    Calls Tryz.prog 230 #[.pointer (some ⟨l, 0, none⟩), .int .i64 s.fmts.length, .int .i64 i] w fun e w' => e = .returned (.int .i64 (s.finsertE s.fmts.length i)) ∧ BS w0 F w' b a st l (s.finsert s.fmts.length i) := by
  have h' := h
  obtain ⟨hm, ⟨Fa, Fs, Fl, Fb, vm, vk, hp, hF⟩, hlt⟩ := h
  exact (fInsert_end hp.list hp.arena i).mono fun e w' ⟨h1, h2, h3⟩ => ⟨h1, h'.next (by
    have e0 : s.finsert s.fmts.length i = { s with fmts := (s.finsert s.fmts.length i).fmts } := by
      unfold St.finsert St.lay
      (repeat' split) <;> rfl
    rw [e0]; exact BR.ofList hp hF h2 h3)⟩
theorem insert_end_ (h : BS w0 F w b a st l s) (i : Int) :
    Calls Tryz.prog 167 #[.pointer (some ⟨st, 0, none⟩), .int .i64 s.stk.length, .int .i64 i] w fun e w' => e = .returned (.int .i64 (s.pushE i)) ∧ BS w0 F w' b a st l (s.push i) := by
  have h' := h
  obtain ⟨hm, ⟨Fa, Fs, Fl, Fb, vm, vk, hp, hF⟩, hlt⟩ := h
  exact (sInsert_end hp.stack hp.arena i).mono fun e w' ⟨h1, h2, h3⟩ => ⟨h1, h'.next (by rw [← push_eq s i]; exact BR.ofStack hp hF h2 h3)⟩
end BS
end Go.Proofs.YtgaebaokcjhcdaaGreatDoor

/- bodies: open, block, plain, format, single, parameter, ruler. -/
set_option linter.unusedVariables false
set_option linter.unusedSimpArgs false
namespace Go.Proofs.YtgaebaokcjhcdaaGreatDoor
open Go.RowKit Lz
variable {w0 w w' : World} {F : Nat → Prop} {b a st l n : Nat} {s s' : St}

/-- A token without attributes. -/
abbrev tokV (t : Tok) : Value := .agg #[.int .i64 t.kind, .string t.name, .string t.text, .slice none 0 0, .bool t.dup, .bool t.self, .bool t.quirks, .int .i64 t.frm, .int .i64 t.to]
abbrev tokO (t : Tok) : Obj := .cells #[.int .i64 t.kind, .string t.name, .string t.text, .slice none 0 0, .bool t.dup, .bool t.self, .bool t.quirks, .int .i64 t.frm, .int .i64 t.to] 24 (0, 0)
theorem strRow_at {W : World} {g : Nat} (xs : List Str) (hg : g = W.heap.size) (hl : xs.length ≤ 1048576) : StrRow (W.alloc (.cells (xs.map Value.string).toArray 9 (0, 0))) (.slice (some ⟨g, 0, none⟩) xs.length xs.length) xs := by
  subst hg; exact strRow_lit xs (heap_alloc_new W _) hl
/-- What rules ask of a tag. -/
structure TagOK (t : Tok) : Prop where
  attrs : t.attrs = []
  size : t.name.size < 1000000
  name : t.name ≠ n_template
theorem TagOK.tm {t : Tok} (h : TagOK t) (sp : Int) : isTemplate (St.tagNd t sp) = false := by
  have : ((St.tagNd t sp).name == n_template) = false := beq_eq_false_iff_ne.2 h.name
  unfold isTemplate
  rw [this, Bool.and_false]
theorem BS.ins_ (h : BS w0 F w b a st l s) (hf : Fine n s) (hn : n + 2 ≤ 1048576) (t : Tok) (ht : TagOK t) (space : Int) :
    Calls Tryz.prog 53 #[.pointer (some ⟨b, 0, none⟩), tokV t, .int .i64 space] w fun e w' => e = .returned (.int .i64 s.insI) ∧ BS w0 F w' b a st l (s.ins t space) :=
  h.insert_ hf.foster t none 0 0 (fun _ => False) (.inl ⟨rfl, ht.attrs⟩) (by rw [ht.attrs]; exact Nat.zero_le _) space (hf.room2 hn) (ht.tm space)
theorem BS.onl_ (h : BS w0 F w b a st l s) (hf : Fine n s) (hn : n + 2 ≤ 1048576) (t : Tok) (ht : TagOK t) :
    Calls Tryz.prog 152 #[.pointer (some ⟨b, 0, none⟩), tokV t] w fun e w' => e = .returned (.int .i64 s.onlyI) ∧ BS w0 F w' b a st l (s.only t) :=
  h.only_ hf.foster t none 0 0 (fun _ => False) (.inl ⟨rfl, ht.attrs⟩) (by rw [ht.attrs]; exact Nat.zero_le _) (hf.room2 hn) (ht.tm 0)

set_option maxRecDepth 100000 in
set_option maxHeartbeats 1000000 in
theorem open_c (h : BS w0 F w b a st l s) (hf : Fine n s) (hn : n + 2 ≤ 1048576) (t : Tok) (ht : TagOK t) :
    Calls Tryz.prog 93 #[.pointer (some ⟨b, 0, none⟩), tokV t] w fun e w' => e = .returned (.tuple #[]) ∧ BS w0 F w' b a st l (s.ins t 0) := by
  have h0 := h.enter (bel_alloc w (tokO t))
  have HI := Lib.hid (h0.ins_ hf hn t ht 0)
  go_enter Tryz.func93, Tryz.ntmps93
  go_wp2_with (go_at_call 53; refine (HI.out).mono ?_; rintro e w1 ⟨rfl, h1⟩)
  go_end0
  exact ⟨rfl, h.sub (bel_alloc w (tokO t)) h1⟩
def St.block (s : St) (t : Tok) : St := s.closeP.ins t 0
set_option maxRecDepth 100000 in
set_option maxHeartbeats 1000000 in
theorem block_c (h : BS w0 F w b a st l s) (hf : Fine n s) (hn : n + 2 ≤ 1048576) (t : Tok) (ht : TagOK t) :
    Calls Tryz.prog 71 #[.pointer (some ⟨b, 0, none⟩), tokV t] w fun e w' => e = .returned (.tuple #[]) ∧ BS w0 F w' b a st l (St.block s t) := by
  have h0 := h.enter (bel_alloc w (tokO t))
  have HI := Lib.hid (h0.closeP_ hf.names)
  have HO := fun W (k : BS (w.alloc (tokO t)) (grow F w0 w) W b a st l s.closeP) => open_c k hf.closeP hn t ht
  have HO := Lib.hid HO
  go_enter Tryz.func71, Tryz.ntmps71
  go_wp2_with (first | (go_at_call 139; refine (HI.out).mono ?_; rintro e w1 ⟨rfl, h1⟩; have hbx := h.boxed h1) | (go_at_call 93; refine (HO.out _ h1).mono ?_; rintro e w2 ⟨rfl, h2⟩))
  go_end0
  exact ⟨rfl, h.sub (bel_alloc w (tokO t)) h2⟩
end Go.Proofs.YtgaebaokcjhcdaaGreatDoor

/- bodies: plain, format, single, parameter, ruler, shut, endP, endBr, endBody. -/
set_option linter.unusedVariables false
set_option linter.unusedSimpArgs false
namespace Go.Proofs.YtgaebaokcjhcdaaGreatDoor
open Go.RowKit Lz
variable {w0 w w' : World} {F : Nat → Prop} {b a st l n : Nat} {s s' : St}

/-- Nothing is lost, so that nothing is built anew. -/
def Reb (s : St) : Prop := s.lost = s.fmts.length
/-- No formatting element stands behind the last marker. -/
def Psh (s : St) : Prop := s.fopen = s.fmts.length
theorem BS.rebuild_ (h : BS w0 F w b a st l s) (hr : Reb s) :
    Calls Tryz.prog 24 #[.pointer (some ⟨b, 0, none⟩)] w fun e w' => e = .returned (.tuple #[]) ∧ BS w0 F w' b a st l s.rebuild := by
  rw [rebuild_none hr]; exact h.rebuild_none_ hr
theorem Lz.Fine.rebuild (h : Fine n s) (hr : Reb s) : Fine n s.rebuild := by rw [rebuild_none hr]; exact h

def St.plain (s : St) (t : Tok) : St := s.rebuild.ins t 0
set_option maxRecDepth 100000 in
set_option maxHeartbeats 1000000 in
theorem plain_c (h : BS w0 F w b a st l s) (hf : Fine n s) (hn : n + 2 ≤ 1048576) (hr : Reb s) (t : Tok) (ht : TagOK t) :
    Calls Tryz.prog 30 #[.pointer (some ⟨b, 0, none⟩), tokV t] w fun e w' => e = .returned (.tuple #[]) ∧ BS w0 F w' b a st l (St.plain s t) := by
  have h0 := h.enter (bel_alloc w (tokO t))
  have HI := Lib.hid (h0.rebuild_ hr)
  have HO := fun W (k : BS (w.alloc (tokO t)) (grow F w0 w) W b a st l s.rebuild) => open_c k (hf.rebuild hr) hn t ht
  have HO := Lib.hid HO
  go_enter Tryz.func30, Tryz.ntmps30
  go_wp2_with (first | (go_at_call 24; refine (HI.out).mono ?_; rintro e w1 ⟨rfl, h1⟩; have hbx := h.boxed h1) | (go_at_call 93; refine (HO.out _ h1).mono ?_; rintro e w2 ⟨rfl, h2⟩))
  go_end0
  exact ⟨rfl, h.sub (bel_alloc w (tokO t)) h2⟩
def St.single (s : St) (t : Tok) : St := s.rebuild.only t
set_option maxRecDepth 100000 in
set_option maxHeartbeats 1000000 in
theorem single_c (h : BS w0 F w b a st l s) (hf : Fine n s) (hn : n + 2 ≤ 1048576) (hr : Reb s) (t : Tok) (ht : TagOK t) :
    Calls Tryz.prog 83 #[.pointer (some ⟨b, 0, none⟩), tokV t] w fun e w' => e = .returned (.tuple #[]) ∧ BS w0 F w' b a st l (St.single s t) := by
  have h0 := h.enter (bel_alloc w (tokO t))
  have HI := Lib.hid (h0.rebuild_ hr)
  have HO := fun W (k : BS (w.alloc (tokO t)) (grow F w0 w) W b a st l s.rebuild) => k.onl_ (hf.rebuild hr) hn t ht
  have HO := Lib.hid HO
  go_enter Tryz.func83, Tryz.ntmps83
  go_wp2_with (first | (go_at_call 24; refine (HI.out).mono ?_; rintro e w1 ⟨rfl, h1⟩; have hbx := h.boxed h1) | (go_at_call 152; refine (HO.out _ h1).mono ?_; rintro e w2 ⟨rfl, h2⟩))
  go_end0
  exact ⟨rfl, h.sub (bel_alloc w (tokO t)) h2⟩
set_option maxRecDepth 100000 in
set_option maxHeartbeats 1000000 in
theorem parameter_c (h : BS w0 F w b a st l s) (hf : Fine n s) (hn : n + 2 ≤ 1048576) (t : Tok) (ht : TagOK t) :
    Calls Tryz.prog 84 #[.pointer (some ⟨b, 0, none⟩), tokV t] w fun e w' => e = .returned (.tuple #[]) ∧ BS w0 F w' b a st l (s.only t) := by
  have h0 := h.enter (bel_alloc w (tokO t))
  have HO := Lib.hid (h0.onl_ hf hn t ht)
  go_enter Tryz.func84, Tryz.ntmps84
  go_wp2_with (go_at_call 152; refine (HO.out).mono ?_; rintro e w2 ⟨rfl, h2⟩)
  go_end0
  exact ⟨rfl, h.sub (bel_alloc w (tokO t)) h2⟩
def St.ruler (s : St) (t : Tok) : St := s.closeP.only t
set_option maxRecDepth 100000 in
set_option maxHeartbeats 1000000 in
theorem ruler_c (h : BS w0 F w b a st l s) (hf : Fine n s) (hn : n + 2 ≤ 1048576) (t : Tok) (ht : TagOK t) :
    Calls Tryz.prog 85 #[.pointer (some ⟨b, 0, none⟩), tokV t] w fun e w' => e = .returned (.tuple #[]) ∧ BS w0 F w' b a st l (St.ruler s t) := by
  have h0 := h.enter (bel_alloc w (tokO t))
  have HI := Lib.hid (h0.closeP_ hf.names)
  have HO := fun W (k : BS (w.alloc (tokO t)) (grow F w0 w) W b a st l s.closeP) => k.onl_ hf.closeP hn t ht
  have HO := Lib.hid HO
  go_enter Tryz.func85, Tryz.ntmps85
  go_wp2_with (first | (go_at_call 139; refine (HI.out).mono ?_; rintro e w1 ⟨rfl, h1⟩; have hbx := h.boxed h1) | (go_at_call 152; refine (HO.out _ h1).mono ?_; rintro e w2 ⟨rfl, h2⟩))
  go_end0
  exact ⟨rfl, h.sub (bel_alloc w (tokO t)) h2⟩
/-- The last row of an Insert: whether it is open. -/
def St.format (s : St) (t : Tok) : St :=
  if 0 ≤ s.rebuild.insI then ((s.rebuild.ins t 0).fpush s.rebuild.insI).fail ((s.rebuild.ins t 0).fpushE s.rebuild.insI) else s.rebuild.ins t 0
set_option maxRecDepth 100000 in
set_option maxHeartbeats 1000000 in
theorem format_c (h : BS w0 F w b a st l s) (hf : Fine n s) (hn : n + 2 ≤ 1048576) (hr : Reb s) (t : Tok) (ht : TagOK t) (hp : Psh (s.rebuild.ins t 0)) :
    Calls Tryz.prog 79 #[.pointer (some ⟨b, 0, none⟩), tokV t] w fun e w' => e = .returned (.tuple #[]) ∧ BS w0 F w' b a st l (St.format s t) := by
  have h0 := h.enter (bel_alloc w (tokO t))
  have HI := Lib.hid (h0.rebuild_ hr)
  have HO := fun W (k : BS (w.alloc (tokO t)) (grow F w0 w) W b a st l s.rebuild) => k.ins_ (hf.rebuild hr) hn t ht 0
  have HP := fun W (k : BS (w.alloc (tokO t)) (grow F w0 w) W b a st l (s.rebuild.ins t 0)) => k.fpush_end_ s.rebuild.insI hp
  have HQ : Hid (St.format s t = if 0 ≤ s.rebuild.insI then ((s.rebuild.ins t 0).fpush s.rebuild.insI).fail ((s.rebuild.ins t 0).fpushE s.rebuild.insI) else s.rebuild.ins t 0) := rfl
  generalize hi : s.rebuild.insI = i at HO HP HQ
  have HO := Lib.hid HO; have HP := Lib.hid HP
  clear hi hp hr
  by_cases hi0 : 0 ≤ i
  · go_enter Tryz.func79, Tryz.ntmps79
    go_wp2_with (first | (go_at_call 24; refine (HI.out).mono ?_; rintro e w1 ⟨rfl, h1⟩; have hbx := h.boxed h1) | (go_at_call 53; refine (HO.out _ h1).mono ?_; rintro e w2 ⟨rfl, h2⟩) | (go_at_call 132; refine (h2.formats_).mono ?_; rintro e w2' ⟨rfl, rfl⟩) | (go_at_call 149; refine (HP.out _ h2).mono ?_; rintro e w3 ⟨rfl, h3⟩) | (go_at_call 116; refine (h3.fail_ _).mono ?_; rintro e w4 ⟨rfl, h4⟩))
    go_end0
    exact ⟨rfl, h.sub (bel_alloc w (tokO t)) (by rw [HQ.out, if_pos hi0]; exact h4)⟩
  · go_enter Tryz.func79, Tryz.ntmps79
    go_wp2_with (first | (go_at_call 24; refine (HI.out).mono ?_; rintro e w1 ⟨rfl, h1⟩; have hbx := h.boxed h1) | (go_at_call 53; refine (HO.out _ h1).mono ?_; rintro e w2 ⟨rfl, h2⟩))
    go_end0
    exact ⟨rfl, h.sub (bel_alloc w (tokO t)) (by rw [HQ.out, if_neg (by omega)]; exact h2)⟩
def St.endBr (s : St) : St := St.single s (St.impTok n_br)
set_option maxRecDepth 100000 in
set_option maxHeartbeats 1000000 in
theorem endBr_c (h : BS w0 F w b a st l s) (hf : Fine n s) (hn : n + 2 ≤ 1048576) (hr : Reb s) (t : Tok) :
    Calls Tryz.prog 102 #[.pointer (some ⟨b, 0, none⟩), tokV t] w fun e w' => e = .returned (.tuple #[]) ∧ BS w0 F w' b a st l (St.endBr s) := by
  have h0 := h.enter (bel_alloc w (tokO t))
  have hb : TagOK (St.impTok n_br) := ⟨rfl, by decide, by decide⟩
  have HO := Lib.hid (single_c h0 hf hn hr (St.impTok n_br) hb)
  clear hb
  go_enter Tryz.func102, Tryz.ntmps102
  go_wp2_with (go_at_call 83; refine (HO.out).mono ?_; rintro e w2 ⟨rfl, h2⟩)
  go_end0
  exact ⟨rfl, h.sub (bel_alloc w (tokO t)) h2⟩
def St.endP (s : St) : St := (if s.has 2 [n_p] then s else s.imply n_p).closeP
set_option maxRecDepth 100000 in
set_option maxHeartbeats 1000000 in
theorem endP_c (h : BS w0 F w b a st l s) (hf : Fine n s) (hn : n + 2 ≤ 1048576) (t : Tok) :
    Calls Tryz.prog 97 #[.pointer (some ⟨b, 0, none⟩), tokV t] w fun e w' => e = .returned (.tuple #[]) ∧ BS w0 F w' b a st l (St.endP s) := by
  have h0 := h.enter (bel_alloc w (tokO t))
  have HA := Lib.hid (fun W (k : BS (w.alloc (tokO t)) (grow F w0 w) W b a st l s) v hv => k.has_ hf.names 2 v [n_p] hv)
  have HM := Lib.hid (fun W (k : BS (w.alloc (tokO t)) (grow F w0 w) W b a st l s) => k.imply_ hf.foster n_p (hf.room2 hn) (by decide))
  have HC := Lib.hid (fun W (k : BS (w.alloc (tokO t)) (grow F w0 w) W b a st l s) => k.closeP_ hf.names)
  have HC2 := Lib.hid (fun W (k : BS (w.alloc (tokO t)) (grow F w0 w) W b a st l (s.imply n_p)) => k.closeP_ (hf.imply n_p (by decide) (by decide)).names)
  have HQ : Hid (St.endP s = (if s.has 2 [n_p] then s else s.imply n_p).closeP) := rfl
  cases hb : s.has 2 [n_p]
  · have HB := Lib.hid hb
    have HA := Lib.hid (fun W k v hv => hb ▸ HA.out W k v hv)
    have HQ := Lib.hid (hb ▸ HQ.out)
    clear hb
    go_enter Tryz.func97, Tryz.ntmps97
    go_wp2_with (first | (go_at_call 19; refine (h0.stack_).mono ?_; rintro e w1' ⟨rfl, rfl⟩) | (go_at_call 145; refine (HA.out _ (h0.al _) _ (strRow_at [n_p] (by simp) (by decide))).mono ?_; rintro e w1 ⟨rfl, h1⟩) | (go_at_call 38; refine (HM.out _ h1).mono ?_; rintro e w2 ⟨rfl, h2⟩) | (go_at_call 139; refine (HC2.out _ h2).mono ?_; rintro e w3 ⟨rfl, h3⟩))
    go_end0
    exact ⟨rfl, h.sub (bel_alloc w (tokO t)) (by rw [HQ.out]; exact h3)⟩
  · have HB := Lib.hid hb
    have HA := Lib.hid (fun W k v hv => hb ▸ HA.out W k v hv)
    have HQ := Lib.hid (hb ▸ HQ.out)
    clear hb
    go_enter Tryz.func97, Tryz.ntmps97
    go_wp2_with (first | (go_at_call 19; refine (h0.stack_).mono ?_; rintro e w1' ⟨rfl, rfl⟩) | (go_at_call 145; refine (HA.out _ (h0.al _) _ (strRow_at [n_p] (by simp) (by decide))).mono ?_; rintro e w1 ⟨rfl, h1⟩) | (go_at_call 139; refine (HC.out _ h1).mono ?_; rintro e w3 ⟨rfl, h3⟩))
    go_end0
    exact ⟨rfl, h.sub (bel_alloc w (tokO t)) (by rw [HQ.out]; exact h3)⟩
end Go.Proofs.YtgaebaokcjhcdaaGreatDoor

/- adopt: node, furthest, pop; builder.Again. -/
set_option linter.unusedVariables false
set_option linter.unusedSimpArgs false
namespace Go.Proofs.YtgaebaokcjhcdaaGreatDoor
open Go.RowKit Lz
variable {w0 w w' : World} {F : Nat → Prop} {b a st l n : Nat} {s s' : St}

set_option maxRecDepth 100000 in
set_option maxHeartbeats 2000000 in
theorem adNode_c (h : BS w0 F w b a st l s) (i : Int) :
    Calls Tryz.prog 103 #[.pointer (some ⟨b, 0, none⟩), .int .i64 i] w fun e w' => ∃ v, e = .returned v ∧ NodeVal w' (fun k => w.heap.size ≤ k) v (s.node i) ∧ Bel w w' := by
  have h' := h
  obtain ⟨hm, ⟨Fa, Fs, Fl, Fb, vm, vk, hp, hF⟩, hlt⟩ := h
  have hN := fun W (hW : Bel w W) => aNode_c (hp.bel hW).arena i
  have hnode : nodeAt s.nodes i = s.node i := rfl
  rw [hnode] at hN
  have HN := Lib.hid hN; have HM := Lib.hid hm
  clear hN hp hnode hm hlt
  generalize s.node i = n at *
  go_enter Tryz.func103, Tryz.ntmps103
  go_wp2_with (first | (go_at_call 17; refine ((h'.al _).arena_).mono ?_; rintro e w' ⟨rfl, rfl⟩) | (go_at_call 46; refine (HN.out _ (bel_alloc w _)).mono ?_; rintro e w1 ⟨v1, rfl, ⟨va, vk2, rfl, hVa, hVk⟩, hb1⟩; obtain ⟨A1, z1, rfl⟩ := hVa.shape; obtain ⟨A2, z2, rfl⟩ := hVk.shape; unfold ndCells; have C0 := (hb1.block w.heap.size (by simp)).trans (heap_alloc_new w _); have hz := (Array.getElem?_eq_some_iff.1 C0).1; have q0 := blk_cell C0 0; have q1 := blk_cell C0 1; have q2 := blk_cell C0 2; have q3 := blk_cell C0 3; have q4 := blk_cell C0 4; have q5 := blk_cell C0 5; have q6 := blk_cell C0 6; have q7 := blk_cell C0 7; have q8 := blk_cell C0 8; have q9 := blk_cell C0 9; have q10 := blk_cell C0 10; have g0 := blk_frozen C0 0; have g1 := blk_frozen C0 1; have g2 := blk_frozen C0 2; have g3 := blk_frozen C0 3; have g4 := blk_frozen C0 4; have g5 := blk_frozen C0 5; have g6 := blk_frozen C0 6; have g7 := blk_frozen C0 7; have g8 := blk_frozen C0 8; have g9 := blk_frozen C0 9; have g10 := blk_frozen C0 10; simp only [List.getElem?_toArray, List.getElem?_cons_succ, List.getElem?_cons_zero] at q0 q1 q2 q3 q4 q5 q6 q7 q8 q9 q10; have hbw := bel_tr (bel_alloc w _) hb1; clear C0))
  refine bodyPost_ret (v := .agg (ndCells n (.slice A1 n.attrs.length z1) (.slice A2 n.kids.length z2)).toArray) (by simp [results, Tryz.results103, go_sem, ndCells, q0, q1, q2, q3, q4, q5, q6, q7, q8, q9, q10]) rfl ⟨_, rfl, ⟨_, _, rfl, ?_, ?_⟩, ?_⟩
  · refine AttrRow.mono (F := fun k => w.heap.size + 1 ≤ k) ?_ (fun k hk => by omega)
    repeat (refine AttrRow.set ?_ (fun k hk => by simp only; omega))
    exact hVa.mono (fun k hk => by simpa using hk)
  · refine IntRow.mono (F := fun k => w.heap.size + 1 ≤ k) ?_ (fun k hk => by omega)
    repeat (refine IntRow.set ?_ (fun k hk => by simp only; omega))
    exact hVk.mono (fun k hk => by simpa using hk)
  · repeat (refine bel_set ?_ (by simp only; omega))
    exact hbw
end Go.Proofs.YtgaebaokcjhcdaaGreatDoor
