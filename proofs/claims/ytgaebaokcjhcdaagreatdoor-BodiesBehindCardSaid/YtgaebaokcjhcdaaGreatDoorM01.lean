/- The plain model of the tree that is being built: nodes, open elements, formatting elements, and what is done with them. No program in sight. -/
import Derived.Lib.IndexMore
import Derived.Lib.Strings
import Derived.Test.YtgaebaokcjhcdaaGreatDoorProg
import Derived.WalkKit
import Derived.Deep.Draws
import Derived.KernelRfl
import Derived.Lib.Hide

set_option linter.unusedVariables false
namespace Go.Proofs.YtgaebaokcjhcdaaGreatDoor.Lz
abbrev Str := ByteArray
theorem ba_beq (a b : ByteArray) : (a == b) = (a.data == b.data) := by cases a; cases b; rfl
instance instLawfulBA : LawfulBEq ByteArray where
  eq_of_beq {a b} h := by
    rw [ba_beq] at h
    have := eq_of_beq h
    cases a; cases b; simp_all
  rfl {a} := by rw [ba_beq]; exact beq_self_eq_true _
/-- Texts as the walk holds them against each other. -/
theorem beqS (x y : ByteArray) : (x.toList == y.toList) = (x == y) := by
  rw [ba_beq, Lib.toList_data, Lib.toList_data]
  cases h : x.data == y.data
  · have h' := beq_eq_false_iff_ne.1 h
    rw [beq_eq_false_iff_ne]
    intro e; exact h' (by cases hx : x.data; cases hy : y.data; simp_all)
  · have h' := eq_of_beq h
    rw [h']; simp

def n_p : ByteArray := ⟨#[112]⟩
def n_div : ByteArray := ⟨#[100, 105, 118]⟩
def n_ul : ByteArray := ⟨#[117, 108]⟩
def n_li : ByteArray := ⟨#[108, 105]⟩
def n_h1 : ByteArray := ⟨#[104, 49]⟩
def n_h2 : ByteArray := ⟨#[104, 50]⟩
def n_h3 : ByteArray := ⟨#[104, 51]⟩
def n_h4 : ByteArray := ⟨#[104, 52]⟩
def n_h5 : ByteArray := ⟨#[104, 53]⟩
def n_h6 : ByteArray := ⟨#[104, 54]⟩
def n_pre : ByteArray := ⟨#[112, 114, 101]⟩
def n_b : ByteArray := ⟨#[98]⟩
def n_i : ByteArray := ⟨#[105]⟩
def n_a : ByteArray := ⟨#[97]⟩
def n_address : ByteArray := ⟨#[97, 100, 100, 114, 101, 115, 115]⟩
def n_span : ByteArray := ⟨#[115, 112, 97, 110]⟩
def n_section : ByteArray := ⟨#[115, 101, 99, 116, 105, 111, 110]⟩
def n_cite : ByteArray := ⟨#[99, 105, 116, 101]⟩
def n_main : ByteArray := ⟨#[109, 97, 105, 110]⟩
def n_x_y : ByteArray := ⟨#[120, 45, 121]⟩
def n_blockquote : ByteArray := ⟨#[98, 108, 111, 99, 107, 113, 117, 111, 116, 101]⟩
def n_br : ByteArray := ⟨#[98, 114]⟩
def n_img : ByteArray := ⟨#[105, 109, 103]⟩
def n_input : ByteArray := ⟨#[105, 110, 112, 117, 116]⟩
def n_wbr : ByteArray := ⟨#[119, 98, 114]⟩
def n_embed : ByteArray := ⟨#[101, 109, 98, 101, 100]⟩
def n_area : ByteArray := ⟨#[97, 114, 101, 97]⟩
def n_hr : ByteArray := ⟨#[104, 114]⟩
def n_param : ByteArray := ⟨#[112, 97, 114, 97, 109]⟩
def n_source : ByteArray := ⟨#[115, 111, 117, 114, 99, 101]⟩
def n_track : ByteArray := ⟨#[116, 114, 97, 99, 107]⟩
def n_body : ByteArray := ⟨#[98, 111, 100, 121]⟩
def n_html : ByteArray := ⟨#[104, 116, 109, 108]⟩
def n_head : ByteArray := ⟨#[104, 101, 97, 100]⟩
def n_template : ByteArray := ⟨#[116, 101, 109, 112, 108, 97, 116, 101]⟩
def n_table : ByteArray := ⟨#[116, 97, 98, 108, 101]⟩
def n_tbody : ByteArray := ⟨#[116, 98, 111, 100, 121]⟩
def n_tfoot : ByteArray := ⟨#[116, 102, 111, 111, 116]⟩
def n_thead : ByteArray := ⟨#[116, 104, 101, 97, 100]⟩
def n_tr : ByteArray := ⟨#[116, 114]⟩
def n_td : ByteArray := ⟨#[116, 100]⟩
def n_th : ByteArray := ⟨#[116, 104]⟩
def n_caption : ByteArray := ⟨#[99, 97, 112, 116, 105, 111, 110]⟩
def n_colgroup : ByteArray := ⟨#[99, 111, 108, 103, 114, 111, 117, 112]⟩
def n_col : ByteArray := ⟨#[99, 111, 108]⟩
def n_t : ByteArray := ⟨#[116]⟩
def n_x : ByteArray := ⟨#[120]⟩
def n_y : ByteArray := ⟨#[121]⟩
def n_z : ByteArray := ⟨#[122]⟩
def n_c : ByteArray := ⟨#[99]⟩
def n_dd : ByteArray := ⟨#[100, 100]⟩
def n_dt : ByteArray := ⟨#[100, 116]⟩
def n_button : ByteArray := ⟨#[98, 117, 116, 116, 111, 110]⟩
def n_rtc : ByteArray := ⟨#[114, 116, 99]⟩
def n_empty : ByteArray := ⟨#[]⟩
def l_special : ByteArray := ⟨#[32, 97, 100, 100, 114, 101, 115, 115, 32, 97, 112, 112, 108, 101, 116, 32, 97, 114, 101, 97, 32, 97, 114, 116, 105, 99, 108, 101, 32, 97, 115, 105, 100, 101, 32, 98, 97, 115, 101, 32, 98, 97, 115, 101, 102, 111, 110, 116, 32, 98, 103, 115, 111, 117, 110, 100, 32, 98, 108, 111, 99, 107, 113, 117, 111, 116, 101, 32, 98, 111, 100, 121, 32, 98, 114, 32, 98, 117, 116, 116, 111, 110, 32, 99, 97, 112, 116, 105, 111, 110, 32, 99, 101, 110, 116, 101, 114, 32, 99, 111, 108, 32, 99, 111, 108, 103, 114, 111, 117, 112, 32, 100, 100, 32, 100, 101, 116, 97, 105, 108, 115, 32, 100, 105, 114, 32, 100, 105, 118, 32, 100, 108, 32, 100, 116, 32, 101, 109, 98, 101, 100, 32, 102, 105, 101, 108, 100, 115, 101, 116, 32, 102, 105, 103, 99, 97, 112, 116, 105, 111, 110, 32, 102, 105, 103, 117, 114, 101, 32, 102, 111, 111, 116, 101, 114, 32, 102, 111, 114, 109, 32, 102, 114, 97, 109, 101, 32, 102, 114, 97, 109, 101, 115, 101, 116, 32, 104, 49, 32, 104, 50, 32, 104, 51, 32, 104, 52, 32, 104, 53, 32, 104, 54, 32, 104, 101, 97, 100, 32, 104, 101, 97, 100, 101, 114, 32, 104, 103, 114, 111, 117, 112, 32, 104, 114, 32, 104, 116, 109, 108, 32, 105, 102, 114, 97, 109, 101, 32, 105, 109, 103, 32, 105, 110, 112, 117, 116, 32, 107, 101, 121, 103, 101, 110, 32, 108, 105, 32, 108, 105, 110, 107, 32, 108, 105, 115, 116, 105, 110, 103, 32, 109, 97, 105, 110, 32, 109, 97, 114, 113, 117, 101, 101, 32, 109, 101, 110, 117, 32, 109, 101, 116, 97, 32, 110, 97, 118, 32, 110, 111, 101, 109, 98, 101, 100, 32, 110, 111, 102, 114, 97, 109, 101, 115, 32, 110, 111, 115, 99, 114, 105, 112, 116, 32, 111, 98, 106, 101, 99, 116, 32, 111, 108, 32, 112, 32, 112, 97, 114, 97, 109, 32, 112, 108, 97, 105, 110, 116, 101, 120, 116, 32, 112, 114, 101, 32, 115, 99, 114, 105, 112, 116, 32, 115, 101, 97, 114, 99, 104, 32, 115, 101, 99, 116, 105, 111, 110, 32, 115, 101, 108, 101, 99, 116, 32, 115, 111, 117, 114, 99, 101, 32, 115, 116, 121, 108, 101, 32, 115, 117, 109, 109, 97, 114, 121, 32, 116, 97, 98, 108, 101, 32, 116, 98, 111, 100, 121, 32, 116, 100, 32, 116, 101, 109, 112, 108, 97, 116, 101, 32, 116, 101, 120, 116, 97, 114, 101, 97, 32, 116, 102, 111, 111, 116, 32, 116, 104, 32, 116, 104, 101, 97, 100, 32, 116, 105, 116, 108, 101, 32, 116, 114, 32, 116, 114, 97, 99, 107, 32, 117, 108, 32, 119, 98, 114, 32, 120, 109, 112, 32]⟩
def l_math : ByteArray := ⟨#[32, 97, 110, 110, 111, 116, 97, 116, 105, 111, 110, 45, 120, 109, 108, 32, 109, 105, 32, 109, 110, 32, 109, 111, 32, 109, 115, 32, 109, 116, 101, 120, 116, 32]⟩
def l_svg : ByteArray := ⟨#[32, 100, 101, 115, 99, 32, 102, 111, 114, 101, 105, 103, 110, 111, 98, 106, 101, 99, 116, 32, 116, 105, 116, 108, 101, 32]⟩
def l_implied : ByteArray := ⟨#[32, 100, 100, 32, 100, 116, 32, 108, 105, 32, 111, 112, 116, 103, 114, 111, 117, 112, 32, 111, 112, 116, 105, 111, 110, 32, 112, 32, 114, 98, 32, 114, 112, 32, 114, 116, 32, 114, 116, 99, 32]⟩
def l_thorough : ByteArray := ⟨#[32, 99, 97, 112, 116, 105, 111, 110, 32, 99, 111, 108, 103, 114, 111, 117, 112, 32, 116, 98, 111, 100, 121, 32, 116, 100, 32, 116, 102, 111, 111, 116, 32, 116, 104, 32, 116, 104, 101, 97, 100, 32, 116, 114, 32]⟩
def l_normal : ByteArray := ⟨#[32, 97, 112, 112, 108, 101, 116, 32, 99, 97, 112, 116, 105, 111, 110, 32, 104, 116, 109, 108, 32, 109, 97, 114, 113, 117, 101, 101, 32, 111, 98, 106, 101, 99, 116, 32, 116, 97, 98, 108, 101, 32, 116, 100, 32, 116, 101, 109, 112, 108, 97, 116, 101, 32, 116, 104, 32]⟩
def l_tables : ByteArray := ⟨#[32, 104, 116, 109, 108, 32, 116, 97, 98, 108, 101, 32, 116, 101, 109, 112, 108, 97, 116, 101, 32]⟩
def l_list : ByteArray := ⟨#[32, 97, 112, 112, 108, 101, 116, 32, 99, 97, 112, 116, 105, 111, 110, 32, 104, 116, 109, 108, 32, 109, 97, 114, 113, 117, 101, 101, 32, 111, 98, 106, 101, 99, 116, 32, 116, 97, 98, 108, 101, 32, 116, 100, 32, 116, 101, 109, 112, 108, 97, 116, 101, 32, 116, 104, 32, 111, 108, 32, 117, 108, 32]⟩
def l_button : ByteArray := ⟨#[32, 97, 112, 112, 108, 101, 116, 32, 99, 97, 112, 116, 105, 111, 110, 32, 104, 116, 109, 108, 32, 109, 97, 114, 113, 117, 101, 101, 32, 111, 98, 106, 101, 99, 116, 32, 116, 97, 98, 108, 101, 32, 116, 100, 32, 116, 101, 109, 112, 108, 97, 116, 101, 32, 116, 104, 32, 98, 117, 116, 116, 111, 110, 32]⟩

/-- The same, of a text that is known, by its bytes. -/
theorem beqD (x c : ByteArray) : (x.toList == c.data.toList) = (x == c) := by rw [← Lib.toList_data c]; exact beqS x c
theorem emptyS (x : ByteArray) : x.toList.isEmpty = (x == n_empty) := by
  rw [ba_beq, Lib.toList_data]
  cases x with | mk d => cases d with | mk l => cases l <;> simp [n_empty]

/-! ### Kinds of elements -/
def kin (list name : Str) : Bool :=
  !name.data.toList.isEmpty && !Lib.contains name.data.toList [32] && Lib.contains list.data.toList ([32] ++ name.data.toList ++ [32])
def special (space : Int) (name : Str) : Bool :=
  if space == 0 then kin l_special name else if space == 2 then kin l_math name else if space == 1 then kin l_svg name else false
def impliedK (name : Str) : Bool := kin l_implied name
def thoroughK (name : Str) : Bool := impliedK name || kin l_thorough name
def scopes (which : Int) : Str := if which == 0 then l_normal else if which == 1 then l_list else if which == 2 then l_button else l_tables
def scopeK (which space : Int) (name : Str) : Bool :=
  if which < 0 || 4 ≤ which then false else if space == 0 then kin (scopes which) name else which != 3 && special space name

/-! ### Nodes -/
structure Nd where
  kind : Int := 0
  name : Str := n_empty
  text : Str := n_empty
  space : Int := 0
  attrs : List (Str × Str) := []
  dup : Bool := false
  parent : Int := 0
  content : Int := 0
  kids : List Int := []
  frm : Int := 0
  to : Int := 0
instance : Inhabited Nd := ⟨{}⟩
def nd0 : Nd := {}
def nodeAt (ns : List Nd) (i : Int) : Nd := if 0 ≤ i then ns.getD i.toNat nd0 else nd0
def hasN (ns : List Nd) (i : Int) : Bool := decide (0 ≤ i) && decide (i < (ns.length : Int))
def kidKind (k : Int) : Bool := k == 2 || k == 3 || k == 4 || k == 5
def holdKind (k : Int) : Bool := k == 1 || k == 3 || k == 6
def holdsN (ns : List Nd) (i : Int) : Bool := hasN ns i && holdKind (nodeAt ns i).kind
def hangsN (ns : List Nd) (i : Int) : Bool := hasN ns i && kidKind (nodeAt ns i).kind
def upN (ns : List Nd) (i : Int) : Int := if (nodeAt ns i).kind == 6 then i - 1 else (nodeAt ns i).parent
def aboveF (ns : List Nd) : Nat → Int → Int → Bool
  | 0, _, _ => false
  | f + 1, i, j => if j < 0 then false else if j == i then true else aboveF ns f i (upN ns j)
def aboveN (ns : List Nd) (i j : Int) : Bool := aboveF ns (ns.length + 1) i j
def bareN (n : Nd) : Nd := { n with parent := -1, content := 0, kids := [] }
def contentN : Nd := { kind := 6, parent := -1, frm := -1, to := -1 }
def setKids (ns : List Nd) (p : Int) (l : List Int) : List Nd := ns.modify p.toNat fun n => { n with kids := l }
def setParent (ns : List Nd) (i p : Int) : List Nd := ns.modify i.toNat fun n => { n with parent := p }
def addText (ns : List Nd) (i : Int) (s : Str) : List Nd := ns.modify i.toNat fun n => { n with text := n.text ++ s }
def cutAt (l : List Int) (k : Nat) : List Int := l.take k ++ l.drop (k + 1)
def putAt (l : List Int) (k : Nat) (i : Int) : List Int := l.take k ++ i :: l.drop k
def freeN (ns : List Nd) (i : Int) : List Nd :=
  let p := (nodeAt ns i).parent
  if p < 0 then ns else setParent (setKids ns p (cutAt (nodeAt ns p).kids ((nodeAt ns p).kids.idxOf i))) i (-1)
def hangN (ns : List Nd) (p ref i : Int) : List Nd :=
  let ns1 := freeN ns i
  let kids := (nodeAt ns1 p).kids
  setParent (setKids ns1 p (if ref < 0 then kids ++ [i] else putAt kids (kids.idxOf ref) i)) i p
def isTemplate (n : Nd) : Bool := n.kind == 3 && n.space == 0 && n.name == n_template
def addN (ns : List Nd) (n : Nd) : List Nd :=
  if isTemplate n then ns ++ [{ bareN n with content := (ns.length : Int) + 1 }, contentN] else ns ++ [bareN n]
def appendE (ns : List Nd) (p i : Int) : Int := if !holdsN ns p || !hangsN ns i || aboveN ns i p then 2 else 0
def appendN (ns : List Nd) (p i : Int) : List Nd := if appendE ns p i == 0 then hangN ns p (-1) i else ns
def beforeE (ns : List Nd) (i ref : Int) : Int := if !hangsN ns i || !hasN ns ref || decide ((nodeAt ns ref).parent < 0) || aboveN ns i ref then 2 else 0
def beforeN (ns : List Nd) (i ref : Int) : List Nd := if beforeE ns i ref == 0 then hangN ns (nodeAt ns ref).parent ref i else ns
def moveE (ns : List Nd) (a b : Int) : Int := if !holdsN ns a || !holdsN ns b || aboveN ns a b then 2 else 0
def moveN (ns : List Nd) (a b : Int) : List Nd := if moveE ns a b == 0 then (nodeAt ns a).kids.foldl (fun m i => hangN m b (-1) i) ns else ns
def textE (ns : List Nd) (p ref : Int) : Int := if !holdsN ns p || (ref != -1 && (!hasN ns ref || (nodeAt ns ref).parent != p)) then 2 else 0
def textN (ns : List Nd) (p ref : Int) (s : Str) : List Nd :=
  if textE ns p ref != 0 || s == n_empty then ns
  else
    let kids := (nodeAt ns p).kids
    let k := if 0 ≤ ref then kids.idxOf ref else kids.length
    if 0 < k && (nodeAt ns (kids.getD (k - 1) 0)).kind == 4 then addText ns (kids.getD (k - 1) 0) s
    else hangN (addN ns { kind := 4, text := s, frm := -1, to := -1 }) p ref (ns.length : Int)

/-! ### Loops from the top -/
/-- The last k below n that is so; -1: none. -/
def lastBelow (p : Nat → Bool) : Nat → Int
  | 0 => -1
  | k + 1 => if p k then (k : Int) else lastBelow p k
/-- From the top: is there one that is so, before one that ends it? -/
def scopeFind (hit stop : Nat → Bool) : Nat → Bool
  | 0 => false
  | k + 1 => if hit k then true else if stop k then false else scopeFind hit stop k
/-- How many stay when those at the top that are so are taken. -/
def dropWhile (so : Nat → Bool) : Nat → Nat
  | 0 => 0
  | k + 1 => if so k then dropWhile so k else k + 1

/-! ### The state -/
structure OpEl where
  node : Int := 0
  space : Int := 0
  name : Str := n_empty
instance : Inhabited OpEl := ⟨{}⟩
structure St where
  nodes : List Nd := []
  stk : List OpEl := []
  fmts : List Int := []
  mode : Int := 0
  back : Int := 0
  modes : List Int := []
  head : Int := 0
  form : Int := 0
  quirks : Bool := false
  foster : Bool := false
  skip : Bool := false
  pending : Str := n_empty
  ask : Option (Int × Str) := none
  err : Int := 0
instance : Inhabited St := ⟨{}⟩
structure Tok where
  kind : Int := 0
  name : Str := n_empty
  text : Str := n_empty
  attrs : List (Str × Str) := []
  dup : Bool := false
  self : Bool := false
  quirks : Bool := false
  frm : Int := 0
  to : Int := 0
instance : Inhabited Tok := ⟨{}⟩

namespace St
/-! ### Open elements -/
def el (s : St) (k : Nat) : OpEl := s.stk.getD k {}
def at_ (s : St) (k : Int) : Int := if k < 0 || (s.stk.length : Int) ≤ k then -1 else (s.el k.toNat).node
def top (s : St) : Int := s.at_ ((s.stk.length : Int) - 1)
def index (s : St) (i : Int) : Int := lastBelow (fun k => (s.el k).node == i) s.stk.length
def node (s : St) (i : Int) : Nd := nodeAt s.nodes i
def element (s : St) (i : Int) : OpEl := { node := i, space := (s.node i).space, name := (s.node i).name }
def insertE (s : St) (k i : Int) : Int :=
  if (s.node i).kind != 3 then 2 else if k < 0 || (s.stk.length : Int) < k then 2 else if (512 : Int) ≤ s.stk.length then 150 else 0
def insert (s : St) (k i : Int) : St :=
  if s.insertE k i == 0 then { s with stk := s.stk.take k.toNat ++ s.element i :: s.stk.drop k.toNat } else s
def pushE (s : St) (i : Int) : Int := s.insertE s.stk.length i
def push (s : St) (i : Int) : St := s.insert s.stk.length i
def replaceE (s : St) (k i : Int) : Int := if (s.node i).kind != 3 then 2 else if k < 0 || (s.stk.length : Int) ≤ k then 2 else 0
def replace (s : St) (k i : Int) : St := if s.replaceE k i == 0 then { s with stk := s.stk.set k.toNat (s.element i) } else s
def pop (s : St) : St := { s with stk := s.stk.take (s.stk.length - 1) }
def cut (s : St) (k : Nat) : St := { s with stk := s.stk.take k }
def removeE (s : St) (i : Int) : Int := if s.index i < 0 then 4 else 0
def remove (s : St) (i : Int) : St := if s.index i < 0 then s else { s with stk := s.stk.eraseIdx (s.index i).toNat }
def htmlEl (o : OpEl) (names : List Str) : Bool := o.space == 0 && names.contains o.name
def has (s : St) (which : Int) (names : List Str) : Bool :=
  scopeFind (fun k => htmlEl (s.el k) names) (fun k => scopeK which (s.el k).space (s.el k).name) s.stk.length
def hasNode (s : St) (which i : Int) : Bool :=
  scopeFind (fun k => (s.el k).node == i) (fun k => scopeK which (s.el k).space (s.el k).name) s.stk.length
def untilK (s : St) (names : List Str) : Int := lastBelow (fun k => htmlEl (s.el k) names) s.stk.length
def untilE (s : St) (names : List Str) : Int := if s.untilK names < 0 then 4 else 0
def until_ (s : St) (names : List Str) : St := if s.untilK names < 0 then s else s.cut (s.untilK names).toNat
def drop (s : St) (so : Str → Bool) : St := s.cut (dropWhile (fun k => (s.el k).space == 0 && so (s.el k).name) s.stk.length)
def implied (s : St) (but : Str) : St := s.drop fun name => name != but && impliedK name
def thorough (s : St) : St := s.drop thoroughK

/-! ### Formatting elements -/
def fat (s : St) (k : Int) : Int := if k < 0 || (s.fmts.length : Int) ≤ k then -1 else s.fmts.getD k.toNat 0
/-- The greatest place from a place on. -/
def flast (s : St) (from_ : Int) (so : Int → Bool) : Int := lastBelow (fun k => decide (from_ ≤ (k : Int)) && so (s.fmts.getD k 0)) s.fmts.length
def fopen (s : St) : Int := s.flast 0 (fun i => i == -1) + 1
def findex (s : St) (i : Int) : Int := if i < 0 then -1 else s.flast 0 (fun x => x == i)
def flastName (s : St) (name : Str) : Int :=
  let k := s.flast s.fopen fun i => (s.node i).space == 0 && (s.node i).name == name
  if k < 0 then -1 else s.fmts.getD k.toNat 0
def mayE (s : St) (i : Int) : Int := if (s.node i).kind != 3 then 2 else 0
def like (a n : Nd) : Bool := n.kind == 3 && n.space == a.space && n.name == a.name && n.attrs.length == a.attrs.length && a.attrs.all fun x => n.attrs.contains x
def layE (s : St) : Int := if (64 : Int) ≤ s.fmts.length then 3 else 0
def lay (s : St) (k : Nat) (i : Int) : St := if s.layE == 0 then { s with fmts := putAt s.fmts k i } else s
def fdel (s : St) (k : Nat) : St := { s with fmts := cutAt s.fmts k }
def alikeAt (s : St) (i : Int) (k : Nat) : Bool := decide (s.fopen ≤ (k : Int)) && like (s.node i) (s.node (s.fmts.getD k 0))
def alikes (s : St) (i : Int) : List Nat := (List.range s.fmts.length).filter (s.alikeAt i)
def ffree (s : St) (i : Int) : St := if 3 ≤ (s.alikes i).length then s.fdel ((s.alikes i).headD 0) else s
def fpushE (s : St) (i : Int) : Int := if s.mayE i != 0 then s.mayE i else (s.ffree i).layE
def fpush (s : St) (i : Int) : St := if s.mayE i != 0 then s else (s.ffree i).lay (s.ffree i).fmts.length i
def fmark (s : St) : St := s.lay s.fmts.length (-1)
def fclear (s : St) : St := if s.fmts.length == 0 then s else { s with fmts := s.fmts.take (s.fopen - 1).toNat }
def fremoveE (s : St) (i : Int) : Int := if s.findex i < 0 then 4 else 0
def fremove (s : St) (i : Int) : St := if s.findex i < 0 then s else s.fdel (s.findex i).toNat
def finsertE (s : St) (k i : Int) : Int := if s.mayE i != 0 then s.mayE i else if k < 0 || (s.fmts.length : Int) < k then 2 else s.layE
def finsert (s : St) (k i : Int) : St := if s.mayE i != 0 then s else if k < 0 || (s.fmts.length : Int) < k then s else s.lay k.toNat i
def freplaceE (s : St) (k i : Int) : Int := if s.mayE i != 0 then s.mayE i else if k < 0 || (s.fmts.length : Int) ≤ k then 2 else 0
def freplace (s : St) (k i : Int) : St := if s.freplaceE k i == 0 then { s with fmts := s.fmts.set k.toNat i } else s

/-! ### The builder -/
def fail (s : St) (e : Int) : St := if s.err == 0 && e != 0 then { s with err := e } else s
def htmlNd (n : Nd) (names : List Str) : Bool := n.kind == 3 && n.space == 0 && names.contains n.name
def is (s : St) (names : List Str) : Bool := htmlNd (s.node s.top) names
def last (s : St) (name : Str) : Int := lastBelow (fun k => htmlNd (s.node (s.at_ k)) [name]) s.stk.length
def isOpen (s : St) (name : Str) : Bool := decide (0 ≤ s.last name)
def fostered (s : St) : Int × Int :=
  let template := s.last n_template
  let table := s.last n_table
  if table < template then (s.at_ template, -1)
  else if table < 0 then (s.at_ 0, -1)
  else if 0 ≤ (s.node (s.at_ table)).parent then ((s.node (s.at_ table)).parent, s.at_ table)
  else (s.at_ (table - 1), -1)
def place (s : St) (target : Int) : Int × Int :=
  let pr := if s.foster && htmlNd (s.node target) [n_table, n_tbody, n_tfoot, n_thead, n_tr] then s.fostered else (target, -1)
  if pr.2 < 0 && htmlNd (s.node pr.1) [n_template] then ((s.node pr.1).content, pr.2) else pr
def put (s : St) (node target : Int) : St :=
  let pr := s.place target
  if 0 ≤ pr.2 then { s with nodes := beforeN s.nodes node pr.2 } else { s with nodes := appendN s.nodes pr.1 node }
def target (s : St) : Int := max s.top 0
def add (s : St) (n : Nd) : St := if kidKind n.kind then { s with nodes := addN s.nodes n } else s
def addI (s : St) (n : Nd) : Int := if kidKind n.kind then (s.nodes.length : Int) else -1
def tagNd (t : Tok) (space : Int) : Nd := { kind := 3, name := t.name, space := space, attrs := t.attrs, dup := t.dup, frm := t.frm, to := t.to }
def insI (s : St) : Int := if (512 : Int) ≤ s.stk.length then -1 else (s.nodes.length : Int)
def ins (s : St) (t : Tok) (space : Int) : St :=
  if (512 : Int) ≤ s.stk.length then s.fail 150
  else
    let i := (s.nodes.length : Int)
    let s1 := s.add (tagNd t space)
    let s2 := s1.put i s1.target
    (s2.push i).fail (s2.pushE i)
def onlyI (s : St) : Int := s.insI
def only (s : St) (t : Tok) : St := if s.insI < 0 then s.ins t 0 else (s.ins t 0).pop
def impTok (name : Str) : Tok := { kind := 2, name := name, frm := -1, to := -1 }
def imply (s : St) (name : Str) : St := s.ins (impTok name) 0
def chars (s : St) (t : Str) : St :=
  let pr := s.place s.target
  if 0 < pr.1 then { s with nodes := textN s.nodes pr.1 pr.2 t } else s
def comment (s : St) (t : Tok) (into : Int) : St :=
  let i := (s.nodes.length : Int)
  let s1 := s.add { kind := 5, text := t.text, frm := -1, to := -1 }
  if into < 0 then s1.put i s1.target else { s1 with nodes := appendN s1.nodes into i }
def lostFrom (s : St) : Nat → Nat
  | 0 => 0
  | k + 1 => if s.fmts.getD k 0 == -1 || decide (0 ≤ s.index (s.fmts.getD k 0)) then k + 1 else s.lostFrom k
def lost (s : St) : Nat := s.lostFrom s.fmts.length
def again (n : Nd) : Tok := { kind := 2, name := n.name, attrs := n.attrs, dup := n.dup, frm := n.frm, to := n.to }
def rebuildFrom (s : St) : Nat → Nat → St
  | 0, _ => s
  | many + 1, k =>
    let t := again (s.node (s.fmts.getD k 0))
    if s.insI < 0 then s.ins t 0
    else ((s.ins t 0).freplace (k : Int) s.insI).rebuildFrom many (k + 1)
def rebuild (s : St) : St := s.rebuildFrom (s.fmts.length - s.lost) s.lost
def closeP (s : St) : St := if s.has 2 [n_p] then (s.implied n_p).until_ [n_p] else s

/-! ### adopt -/
def furthestFrom (s : St) : Nat → Int → Int
  | 0, _ => -1
  | many + 1, k => if special (s.node (s.at_ k)).space (s.node (s.at_ k)).name then s.at_ k else s.furthestFrom many (k + 1)
def furthest (s : St) (at_ : Int) : Int := s.furthestFrom ((s.stk.length : Int) - (at_ + 1)).toNat (at_ + 1)
def popTo (s : St) (k : Int) : St := if k < s.stk.length then s.cut k.toNat else s
def freshNd (s : St) (i : Int) : Nd := { kind := 3, name := (s.node i).name, attrs := (s.node i).attrs, dup := (s.node i).dup, frm := (s.node i).frm, to := (s.node i).to }
def fresh (s : St) (i : Int) : St := s.add (s.freshNd i)
/-- inward's rounds: how many there may be, the state, the last one, the place, the count, the mark. -/
def inwardGo (format block : Int) : Nat → St → Int → Int → Int → Int → St × Int × Int
  | 0, s, last, _, _, mark => (s, last, mark)
  | f + 1, s, last, k, many, mark =>
    let k := k - 1
    let x := s.at_ k
    if x == format then (s, last, mark)
    else
      let at0 := s.findex x
      let drop := decide (3 < many) && decide (0 ≤ at0)
      let s1 := if drop then s.fremove x else s
      let mark1 := if drop && decide (at0 < mark) then mark - 1 else mark
      let at1 := if drop then -1 else at0
      if at1 < 0 then inwardGo format block f (s1.remove x) last k (many + 1) mark1
      else
        let y := (s1.nodes.length : Int)
        let s2 := ((s1.fresh x).freplace at1 y).replace k y
        let mark2 := if last == block then at1 + 1 else mark1
        inwardGo format block f { s2 with nodes := appendN s2.nodes y last } y k (many + 1) mark2
def inward (s : St) (format block mark : Int) : St × Int × Int := inwardGo format block (s.stk.length + 1) s block (s.index block) 1 mark
def renew (s : St) (format block mark : Int) : St :=
  let y := (s.nodes.length : Int)
  let s1 := s.fresh format
  let s2 := { s1 with nodes := appendN (moveN s1.nodes block y) block y }
  let at_ := s2.findex format
  let s3 := s2.fremove format
  let mark1 := if at_ < mark then mark - 1 else mark
  let s4 := (s3.finsert mark1 y).remove format
  s4.insert (s4.index block + 1) y
/-- once: the state, whether there may be more, whether there was one. -/
def once (s : St) (name : Str) : St × Bool × Bool :=
  let format := s.flastName name
  if format < 0 then (s, false, false)
  else
    let at_ := s.index format
    if at_ < 0 then (s.fremove format, false, true)
    else if !s.hasNode 0 format then (s, false, true)
    else
      let block := s.furthest at_
      if block < 0 then ((s.popTo at_).fremove format, false, true)
      else
        let r := s.inward format block (s.findex format)
        ((r.1.put r.2.1 (s.at_ (at_ - 1))).renew format block r.2.2, true, true)
def runGo (name : Str) : Nat → St → St × Bool
  | 0, s => (s, true)
  | n + 1, s =>
    let r := s.once name
    if !r.2.2 then (r.1, false) else if !r.2.1 then (r.1, true) else runGo name n r.1
def run (s : St) (name : Str) : St × Bool :=
  if s.is [name] && decide (s.findex s.top < 0) then (s.pop, true) else runGo name 8 s
def otherFrom (s : St) (name : Str) : Nat → St
  | 0 => s
  | k + 1 =>
    let n := s.node (s.at_ (k : Int))
    if n.space == 0 && n.name == name then (s.implied name).popTo (k : Int)
    else if special n.space n.name then s else s.otherFrom name k
def other (s : St) (name : Str) : St := s.otherFrom name s.stk.length
def formatted (s : St) (name : Str) : St := let r := s.run name; if r.2 then r.1 else r.1.other name
end St
end Go.Proofs.YtgaebaokcjhcdaaGreatDoor.Lz

/- What memory holds for the tree that is being built: rows of cells, blocks, footprints, and how they live on through writes elsewhere. No program's text is stepped through here. -/
set_option linter.unusedVariables false
set_option linter.unusedSimpArgs false
namespace Go.Proofs.YtgaebaokcjhcdaaGreatDoor
open Go.RowKit Lz

theorem ret_bool {a b : Bool} (h : a = b) : Ending.returned (.bool a) = .returned (.bool b) := by rw [h]
theorem ret_int {k : IntKind} {a b : Int} (h : a = b) : Ending.returned (.int k a) = .returned (.int k b) := by rw [h]
theorem ret_str {a b : ByteArray} (h : a = b) : Ending.returned (.string a) = .returned (.string b) := by rw [h]

/-! ### Worlds -/
/-- Nothing that was there has turned; blocks may have come. -/
abbrev Bel (w w' : World) : Prop := Below w.heap.size w w'
/-- Only blocks of F may have turned; blocks may have come. -/
structure Mut (F : Nat → Prop) (w w' : World) : Prop where
  os : w'.os = w.os
  tape : w'.tape = w.tape
  output : w'.output = w.output
  size : w.heap.size ≤ w'.heap.size
  block : ∀ k, k < w.heap.size → ¬ F k → w'.heap[k]? = w.heap[k]?
/-- The footprint, and what has come since. -/
def grow (F : Nat → Prop) (w w' : World) : Nat → Prop := fun k => F k ∨ (w.heap.size ≤ k ∧ k < w'.heap.size)

theorem Mut.refl (F : Nat → Prop) (w : World) : Mut F w w := ⟨rfl, rfl, rfl, Nat.le_refl _, fun _ _ _ => rfl⟩
theorem Mut.trans {F : Nat → Prop} {a b c : World} (h : Mut F a b) (k : Mut (grow F a b) b c) : Mut F a c :=
  ⟨k.os.trans h.os, k.tape.trans h.tape, k.output.trans h.output, Nat.le_trans h.size k.size, fun i hi hF =>
    (k.block i (Nat.lt_of_lt_of_le hi h.size) (fun h1 => h1.elim hF (fun h2 => by omega))).trans (h.block i hi hF)⟩
theorem Mut.mono {F G : Nat → Prop} {a b : World} (h : Mut F a b) (hFG : ∀ k, F k → G k) : Mut G a b :=
  ⟨h.os, h.tape, h.output, h.size, fun i hi hG => h.block i hi (fun hF => hG (hFG i hF))⟩
theorem Mut.of_bel {F : Nat → Prop} {a b : World} (h : Bel a b) : Mut F a b := ⟨h.os, h.tape, h.output, h.size, fun i hi _ => h.block i hi⟩
theorem Mut.drewN {F : Nat → Prop} {a b : World} (h : Mut F a b) (n : Nat) : Mut F a (b.drewN n) := ⟨h.os, h.tape, h.output, h.size, h.block⟩
theorem Mut.drew {F : Nat → Prop} {a b : World} (h : Mut F a b) : Mut F a b.drew := ⟨h.os, h.tape, h.output, h.size, h.block⟩
theorem Mut.alloc {F : Nat → Prop} {a b : World} (h : Mut F a b) (o : Obj) : Mut F a (b.alloc o) :=
  ⟨h.os, h.tape, h.output, Nat.le_trans h.size (by simp), fun k hk hF => (Below.heap_alloc _ _ _ (Nat.lt_of_lt_of_le hk h.size)).trans (h.block k hk hF)⟩
theorem Mut.setCell {F : Nat → Prop} {a b : World} (h : Mut F a b) {p : Addr} (hp : F p.block ∨ a.heap.size ≤ p.block) (u : Value) : Mut F a (b.setCell p u) :=
  ⟨h.os, h.tape, h.output, by simpa using h.size, fun k hk hF => (Below.heap_setCell _ _ _ _ (by rintro rfl; exact hp.elim hF (fun h2 => by omega))).trans (h.block k hk hF)⟩
theorem Mut.bel {F : Nat → Prop} {a b : World} (h : Mut F a b) (hF : ∀ k, ¬ F k) : Bel a b := ⟨h.os, h.tape, h.output, h.size, fun k hk => h.block k hk (hF k)⟩
theorem grow_self {F : Nat → Prop} {w : World} {k : Nat} (h : grow F w w k) : F k := h.elim id (fun h2 => by omega)

theorem bel_al {a b : World} {o : Obj} (h : Bel a b) : Bel a (b.alloc o) := h.alloc h.size o
theorem bel_dr {a b : World} (h : Bel a b) : Bel a b.drew := h.drew
theorem bel_drN {a b : World} {n : Nat} (h : Bel a b) : Bel a (b.drewN n) := ⟨h.os, h.tape, h.output, h.size, h.block⟩
theorem bel_set {a b : World} {p : Addr} {u : Value} (h : Bel a b) (hp : a.heap.size ≤ p.block) : Bel a (b.setCell p u) := h.setCell hp u
theorem bel_tr {a b c : World} (h : Bel a b) (k : Bel b c) : Bel a c := h.trans (k.mono h.size)

/-! ### Values of nodes and tokens -/
def ndCells (n : Nd) (va vk : Value) : List Value :=
  [.int .i64 n.kind, .string n.name, .string n.text, .int .i64 n.space, va, .bool n.dup, .int .i64 n.parent, .int .i64 n.content, vk, .int .i64 n.frm, .int .i64 n.to]
def tokCells (t : Tok) (va : Value) : List Value :=
  [.int .i64 t.kind, .string t.name, .string t.text, va, .bool t.dup, .bool t.self, .bool t.quirks, .int .i64 t.frm, .int .i64 t.to]

/-! ### Rows -/
/-- A row of whole numbers of the footprint. -/
def IntRow (w : World) (F : Nat → Prop) (v : Value) (xs : List Int) : Prop :=
  (v = .slice none 0 0 ∧ xs = []) ∨ ∃ g cap cur, v = .slice (some ⟨g, 0, none⟩) xs.length cap ∧ F g ∧ w.heap[g]? = some (.cells cur 3 (0, 0)) ∧ xs.length ≤ cap ∧ cap ≤ maxLen ∧ cap ≤ cur.size ∧
    ∀ i, i < xs.length → cur[i]? = some (.int .i64 (xs.getD i 0))
/-- A row of attributes. -/
def AttrRow (w : World) (F : Nat → Prop) (v : Value) (l : List (Str × Str)) : Prop :=
  (v = .slice none 0 0 ∧ l = []) ∨ ∃ g cap cur, v = .slice (some ⟨g, 0, none⟩) l.length cap ∧ F g ∧ w.heap[g]? = some (.cells cur 113 (0, 0)) ∧ l.length ≤ cap ∧ cap ≤ maxLen ∧ cap * 2 ≤ cur.size ∧
    ∀ i, i < l.length → cur[i * 2]? = some (.string (l.getD i (n_empty, n_empty)).1) ∧ cur[i * 2 + 1]? = some (.string (l.getD i (n_empty, n_empty)).2)
/-- A row of open elements. -/
def OpRow (w : World) (F : Nat → Prop) (v : Value) (l : List OpEl) : Prop :=
  (v = .slice none 0 0 ∧ l = []) ∨ ∃ g cap cur, v = .slice (some ⟨g, 0, none⟩) l.length cap ∧ F g ∧ w.heap[g]? = some (.cells cur 116 (0, 0)) ∧ l.length ≤ cap ∧ cap ≤ maxLen ∧ cap * 3 ≤ cur.size ∧
    ∀ i, i < l.length → cur[i * 3]? = some (.int .i64 (l.getD i {}).node) ∧ cur[i * 3 + 1]? = some (.int .i64 (l.getD i {}).space) ∧ cur[i * 3 + 2]? = some (.string (l.getD i {}).name)

theorem IntRow.keep {w w' : World} {F G : Nat → Prop} {v : Value} {xs : List Int} (h : IntRow w F v xs) (hk : ∀ k, F k → v.ownBlock = some k → w'.heap[k]? = w.heap[k]?) (hG : ∀ k, F k → G k) : IntRow w' G v xs := by
  rcases h with h | ⟨g, cap, cur, rfl, hF, hb, r⟩
  · exact .inl h
  · exact .inr ⟨g, cap, cur, rfl, hG g hF, (hk g hF rfl).trans hb, r⟩
theorem AttrRow.keep {w w' : World} {F G : Nat → Prop} {v : Value} {l : List (Str × Str)} (h : AttrRow w F v l) (hk : ∀ k, F k → v.ownBlock = some k → w'.heap[k]? = w.heap[k]?) (hG : ∀ k, F k → G k) : AttrRow w' G v l := by
  rcases h with h | ⟨g, cap, cur, rfl, hF, hb, r⟩
  · exact .inl h
  · exact .inr ⟨g, cap, cur, rfl, hG g hF, (hk g hF rfl).trans hb, r⟩
theorem AttrRow.keep2 {w w' : World} {F G : Nat → Prop} {v : Value} {l : List (Str × Str)} (h : AttrRow w F v l) (hk : ∀ k, F k → v.ownBlock = some k → w'.heap[k]? = w.heap[k]?) (hG : ∀ k, F k → v.ownBlock = some k → G k) : AttrRow w' G v l := by
  rcases h with h | ⟨g, cap, cur, rfl, hF, hb, r⟩
  · exact .inl h
  · exact .inr ⟨g, cap, cur, rfl, hG g hF rfl, (hk g hF rfl).trans hb, r⟩
theorem IntRow.keep2 {w w' : World} {F G : Nat → Prop} {v : Value} {l : List Int} (h : IntRow w F v l) (hk : ∀ k, F k → v.ownBlock = some k → w'.heap[k]? = w.heap[k]?) (hG : ∀ k, F k → v.ownBlock = some k → G k) : IntRow w' G v l := by
  rcases h with h | ⟨g, cap, cur, rfl, hF, hb, r⟩
  · exact .inl h
  · exact .inr ⟨g, cap, cur, rfl, hG g hF rfl, (hk g hF rfl).trans hb, r⟩
theorem OpRow.keep {w w' : World} {F G : Nat → Prop} {v : Value} {l : List OpEl} (h : OpRow w F v l) (hk : ∀ k, F k → v.ownBlock = some k → w'.heap[k]? = w.heap[k]?) (hG : ∀ k, F k → G k) : OpRow w' G v l := by
  rcases h with h | ⟨g, cap, cur, rfl, hF, hb, r⟩
  · exact .inl h
  · exact .inr ⟨g, cap, cur, rfl, hG g hF, (hk g hF rfl).trans hb, r⟩

theorem IntRow.keepT {w w' : World} {F G : Nat → Prop} {v : Value} {xs : List Int} (h : IntRow w F v xs) (hk : ∀ k cs, F k → w.heap[k]? = some (.cells cs 3 (0, 0)) → w'.heap[k]? = w.heap[k]?) (hG : ∀ k, F k → G k) : IntRow w' G v xs := by
  rcases h with h | ⟨g, cap, cur, rfl, hF, hb, r⟩
  · exact .inl h
  · exact .inr ⟨g, cap, cur, rfl, hG g hF, (hk g cur hF hb).trans hb, r⟩
theorem AttrRow.keepT {w w' : World} {F G : Nat → Prop} {v : Value} {l : List (Str × Str)} (h : AttrRow w F v l) (hk : ∀ k cs, F k → w.heap[k]? = some (.cells cs 113 (0, 0)) → w'.heap[k]? = w.heap[k]?) (hG : ∀ k, F k → G k) : AttrRow w' G v l := by
  rcases h with h | ⟨g, cap, cur, rfl, hF, hb, r⟩
  · exact .inl h
  · exact .inr ⟨g, cap, cur, rfl, hG g hF, (hk g cur hF hb).trans hb, r⟩
theorem OpRow.keepT {w w' : World} {F G : Nat → Prop} {v : Value} {l : List OpEl} (h : OpRow w F v l) (hk : ∀ k cs, F k → w.heap[k]? = some (.cells cs 116 (0, 0)) → w'.heap[k]? = w.heap[k]?) (hG : ∀ k, F k → G k) : OpRow w' G v l := by
  rcases h with h | ⟨g, cap, cur, rfl, hF, hb, r⟩
  · exact .inl h
  · exact .inr ⟨g, cap, cur, rfl, hG g hF, (hk g cur hF hb).trans hb, r⟩
theorem blk_ne {w : World} {k k' : Nat} {cs cs' : Array Value} {t t' : TypeId} {f f' : Nat × Nat} (h : w.heap[k]? = some (.cells cs t f)) (h' : w.heap[k']? = some (.cells cs' t' f')) (ht : t ≠ t') : k ≠ k' := by
  rintro rfl
  rw [h] at h'
  injection h' with h'
  injection h' with _ h2 _
  exact ht h2

/-! ### The arena -/
/-- What the tree's nodes owe each other. -/
structure WF (ns : List Nd) : Prop where
  kid : ∀ p, p < ns.length → ∀ x ∈ (ns.getD p nd0).kids, 0 ≤ x ∧ x < (ns.length : Int) ∧ (nodeAt ns x).parent = p
  nodup : ∀ p, p < ns.length → (ns.getD p nd0).kids.Nodup
  parent : ∀ i, i < ns.length → (ns.getD i nd0).parent < 0 ∨ ((ns.getD i nd0).parent < (ns.length : Int) ∧ (i : Int) ∈ (nodeAt ns (ns.getD i nd0).parent).kids)
  content : ∀ i, i < ns.length → (ns.getD i nd0).kind = 6 → 1 ≤ i ∧ (ns.getD i nd0).parent < 0
  rank : ∃ r : Nat → Nat, ∀ i, i < ns.length → 0 ≤ upN ns i → r (upN ns i).toNat < r i

structure ArenaP (w : World) (F : Nat → Prop) (a g cap : Nat) (cur : Array Value) (va vk : Nat → Value) (ns : List Nd) : Prop where
  blk : w.heap[a]? = some (.cells #[.slice (some ⟨g, 0, none⟩) ns.length cap] 109 (0, 0))
  Fa : F a
  Fg : F g
  row : w.heap[g]? = some (.cells cur 54 (0, 0))
  pos : 0 < ns.length
  le : ns.length ≤ cap
  capm : cap ≤ maxLen
  fit : cap * 11 ≤ cur.size
  cells : ∀ i j, i < ns.length → j < 11 → cur[i * 11 + j]? = (ndCells (ns.getD i nd0) (va i) (vk i))[j]?
  attrs : ∀ i, i < ns.length → AttrRow w F (va i) (ns.getD i nd0).attrs
  kids : ∀ i, i < ns.length → IntRow w F (vk i) (ns.getD i nd0).kids
  apart : ∀ i j b, i < ns.length → j < ns.length → (vk i).ownBlock = some b → (vk j).ownBlock = some b → i = j
  lt : ∀ k, F k → k < w.heap.size
  small : ns.length ≤ 1048576
  asmall : ∀ i, i < ns.length → (ns.getD i nd0).attrs.length ≤ 1048576
structure ArenaV (w : World) (F : Nat → Prop) (a g cap : Nat) (cur : Array Value) (va vk : Nat → Value) (ns : List Nd) : Prop extends ArenaP w F a g cap cur va vk ns where
  wf : WF ns
def ArenaRep (w : World) (F : Nat → Prop) (a : Nat) (ns : List Nd) : Prop := ∃ g cap cur va vk, ArenaV w F a g cap cur va vk ns

theorem blk_cell {w : World} {k : Nat} {cs : Array Value} {t : TypeId} {fr : Nat × Nat} (h : w.heap[k]? = some (.cells cs t fr)) (j : Nat) : w.cell? ⟨k, j, none⟩ = cs[j]? := cell_of_row w k j cs t fr h
theorem blk_frozen {w : World} {k : Nat} {cs : Array Value} {t : TypeId} (h : w.heap[k]? = some (.cells cs t (0, 0))) (j : Nat) : w.frozen? ⟨k, j, none⟩ = false := frozen_of_row w k j cs t h
theorem nodeAt_nat (ns : List Nd) (i : Int) (h : 0 ≤ i) : nodeAt ns i = ns.getD i.toNat nd0 := by simp [nodeAt, h]
theorem nodeAt_cast (ns : List Nd) (i : Nat) : nodeAt ns (i : Int) = ns.getD i nd0 := by simp [nodeAt]
theorem hasN_iff (ns : List Nd) (i : Int) : hasN ns i = true ↔ 0 ≤ i ∧ i < (ns.length : Int) := by simp [hasN]

namespace ArenaP
variable {w : World} {F : Nat → Prop} {a g cap : Nat} {cur : Array Value} {va vk : Nat → Value} {ns : List Nd}
theorem head (h : ArenaP w F a g cap cur va vk ns) : w.cell? ⟨a, 0, none⟩ = some (.slice (some ⟨g, 0, none⟩) ns.length cap) := by rw [blk_cell h.blk]; rfl
theorem ld (h : ArenaP w F a g cap cur va vk ns) (i : Int) (h0 : 0 ≤ i) (h1 : i < (ns.length : Int)) (j : Nat) (hj : j < 11) :
    w.cell? ⟨g, i.toNat * 11 + j, none⟩ = (ndCells (nodeAt ns i) (va i.toNat) (vk i.toNat))[j]? := by
  rw [blk_cell h.row, nodeAt_nat _ _ h0]; exact h.cells _ j (by omega) hj
theorem kindc (h : ArenaP w F a g cap cur va vk ns) (i : Int) (h0 : 0 ≤ i) (h1 : i < (ns.length : Int)) : w.cell? ⟨g, i.toNat * 11, none⟩ = some (.int .i64 (nodeAt ns i).kind) := h.ld i h0 h1 0 (by omega)
theorem namec (h : ArenaP w F a g cap cur va vk ns) (i : Int) (h0 : 0 ≤ i) (h1 : i < (ns.length : Int)) : w.cell? ⟨g, i.toNat * 11 + 1, none⟩ = some (.string (nodeAt ns i).name) := h.ld i h0 h1 1 (by omega)
theorem textc (h : ArenaP w F a g cap cur va vk ns) (i : Int) (h0 : 0 ≤ i) (h1 : i < (ns.length : Int)) : w.cell? ⟨g, i.toNat * 11 + 2, none⟩ = some (.string (nodeAt ns i).text) := h.ld i h0 h1 2 (by omega)
theorem spacec (h : ArenaP w F a g cap cur va vk ns) (i : Int) (h0 : 0 ≤ i) (h1 : i < (ns.length : Int)) : w.cell? ⟨g, i.toNat * 11 + 3, none⟩ = some (.int .i64 (nodeAt ns i).space) := h.ld i h0 h1 3 (by omega)
theorem attrsc (h : ArenaP w F a g cap cur va vk ns) (i : Int) (h0 : 0 ≤ i) (h1 : i < (ns.length : Int)) : w.cell? ⟨g, i.toNat * 11 + 4, none⟩ = some (va i.toNat) := h.ld i h0 h1 4 (by omega)
theorem dupc (h : ArenaP w F a g cap cur va vk ns) (i : Int) (h0 : 0 ≤ i) (h1 : i < (ns.length : Int)) : w.cell? ⟨g, i.toNat * 11 + 5, none⟩ = some (.bool (nodeAt ns i).dup) := h.ld i h0 h1 5 (by omega)
theorem parentc (h : ArenaP w F a g cap cur va vk ns) (i : Int) (h0 : 0 ≤ i) (h1 : i < (ns.length : Int)) : w.cell? ⟨g, i.toNat * 11 + 6, none⟩ = some (.int .i64 (nodeAt ns i).parent) := h.ld i h0 h1 6 (by omega)
theorem contentc (h : ArenaP w F a g cap cur va vk ns) (i : Int) (h0 : 0 ≤ i) (h1 : i < (ns.length : Int)) : w.cell? ⟨g, i.toNat * 11 + 7, none⟩ = some (.int .i64 (nodeAt ns i).content) := h.ld i h0 h1 7 (by omega)
theorem kidsc (h : ArenaP w F a g cap cur va vk ns) (i : Int) (h0 : 0 ≤ i) (h1 : i < (ns.length : Int)) : w.cell? ⟨g, i.toNat * 11 + 8, none⟩ = some (vk i.toNat) := h.ld i h0 h1 8 (by omega)
theorem fromc (h : ArenaP w F a g cap cur va vk ns) (i : Int) (h0 : 0 ≤ i) (h1 : i < (ns.length : Int)) : w.cell? ⟨g, i.toNat * 11 + 9, none⟩ = some (.int .i64 (nodeAt ns i).frm) := h.ld i h0 h1 9 (by omega)
theorem toc (h : ArenaP w F a g cap cur va vk ns) (i : Int) (h0 : 0 ≤ i) (h1 : i < (ns.length : Int)) : w.cell? ⟨g, i.toNat * 11 + 10, none⟩ = some (.int .i64 (nodeAt ns i).to) := h.ld i h0 h1 10 (by omega)
theorem rowf (h : ArenaP w F a g cap cur va vk ns) (j : Nat) : w.frozen? ⟨g, j, none⟩ = false := blk_frozen h.row j
theorem headf (h : ArenaP w F a g cap cur va vk ns) (j : Nat) : w.frozen? ⟨a, j, none⟩ = false := blk_frozen h.blk j
/-- Writes elsewhere leave it. -/
theorem keep {w' : World} {G : Nat → Prop} (h : ArenaP w F a g cap cur va vk ns) (hk : ∀ k, F k → w'.heap[k]? = w.heap[k]?) (hG : ∀ k, F k → G k) (hlt : ∀ k, G k → k < w'.heap.size) : ArenaP w' G a g cap cur va vk ns :=
  { h with
    blk := (hk a h.Fa).trans h.blk, Fa := hG _ h.Fa, Fg := hG _ h.Fg, row := (hk g h.Fg).trans h.row
    attrs := fun i hi => (h.attrs i hi).keep (fun k hF _ => hk k hF) hG
    kids := fun i hi => (h.kids i hi).keep (fun k hF _ => hk k hF) hG
    lt := hlt }
end ArenaP
namespace ArenaV
variable {w : World} {F : Nat → Prop} {a g cap : Nat} {cur : Array Value} {va vk : Nat → Value} {ns : List Nd}
theorem keep {w' : World} {G : Nat → Prop} (h : ArenaV w F a g cap cur va vk ns) (hk : ∀ k, F k → w'.heap[k]? = w.heap[k]?) (hG : ∀ k, F k → G k) (hlt : ∀ k, G k → k < w'.heap.size) : ArenaV w' G a g cap cur va vk ns :=
  { h.toArenaP.keep hk hG hlt with wf := h.wf }
end ArenaV
theorem ArenaRep.keep {w w' : World} {F G : Nat → Prop} {a : Nat} {ns : List Nd} (h : ArenaRep w F a ns) (hk : ∀ k, F k → w'.heap[k]? = w.heap[k]?) (hG : ∀ k, F k → G k) (hlt : ∀ k, G k → k < w'.heap.size) : ArenaRep w' G a ns := by
  obtain ⟨g, cap, cur, va, vk, h⟩ := h
  exact ⟨g, cap, cur, va, vk, h.keep hk hG hlt⟩
theorem ArenaRep.lt {w : World} {F : Nat → Prop} {a : Nat} {ns : List Nd} (h : ArenaRep w F a ns) : ∀ k, F k → k < w.heap.size := by
  obtain ⟨g, cap, cur, va, vk, h⟩ := h
  exact h.lt
theorem ArenaRep.bel {w w' : World} {F : Nat → Prop} {a : Nat} {ns : List Nd} (h : ArenaRep w F a ns) (hb : Bel w w') : ArenaRep w' F a ns :=
  h.keep (fun k hF => hb.block k (h.lt k hF)) (fun _ h => h) (fun k hF => Nat.lt_of_lt_of_le (h.lt k hF) hb.size)
end Go.Proofs.YtgaebaokcjhcdaaGreatDoor

/- Plain facts on the nodes: what they owe each other, and that it lives on. -/
set_option linter.unusedVariables false
set_option linter.unusedSimpArgs false
namespace Go.Proofs.YtgaebaokcjhcdaaGreatDoor
open Lz

theorem countP_le_of {p q : Nat → Bool} : ∀ l : List Nat, (∀ x ∈ l, p x = true → q x = true) → l.countP p ≤ l.countP q
  | [], _ => by simp
  | x :: l, h => by
    have ih := countP_le_of l (fun y hy => h y (by simp [hy]))
    have hx := h x (by simp)
    simp only [List.countP_cons]
    cases hp : p x <;> cases hq : q x <;> simp_all <;> omega
theorem countP_lt_of {p q : Nat → Bool} : ∀ l : List Nat, (∀ x ∈ l, p x = true → q x = true) → ∀ z ∈ l, p z = false → q z = true → l.countP p < l.countP q
  | [], _, z, hz, _, _ => by simp at hz
  | x :: l, h, z, hz, hpz, hqz => by
    have hle := countP_le_of l (fun y hy => h y (by simp [hy]))
    simp only [List.countP_cons]
    rcases List.mem_cons.1 hz with rfl | hz
    · simp [hpz, hqz]; omega
    · have ih := countP_lt_of l (fun y hy => h y (by simp [hy])) z hz hpz hqz
      have hx := h x (by simp)
      cases hp : p x <;> cases hq : q x <;> simp_all <;> omega

theorem upN_lt {ns : List Nd} (h : WF ns) {i : Int} (h0 : 0 ≤ i) (h1 : i < (ns.length : Int)) : upN ns i < (ns.length : Int) := by
  have hl : i.toNat < ns.length := by omega
  unfold upN
  split
  · omega
  · rw [nodeAt_nat _ _ h0]
    rcases h.parent _ hl with h2 | h2 <;> omega

/-- A rank of at most the number of nodes. -/
theorem WF.ranked {ns : List Nd} (h : WF ns) : ∃ r : Nat → Nat, (∀ i, r i ≤ ns.length) ∧ ∀ i, i < ns.length → 0 ≤ upN ns i → r (upN ns i).toNat < r i := by
  obtain ⟨r, hr⟩ := h.rank
  refine ⟨fun i => (List.range ns.length).countP fun k => decide (r k < r i), fun i => by have := List.countP_le_length (p := fun k => decide (r k < r i)) (l := List.range ns.length); simpa using this, fun i hi hu => ?_⟩
  have hlt := hr i hi hu
  have hul : upN ns i < (ns.length : Int) := upN_lt h (by omega) (by omega)
  refine countP_lt_of _ (fun x _ hx => ?_) (upN ns i).toNat (by simp; omega) (by simp) (by simpa using hlt)
  simp only [decide_eq_true_eq] at hx ⊢; omega

theorem aboveF_stable {ns : List Nd} (h : WF ns) (r : Nat → Nat) (hr : ∀ i, i < ns.length → 0 ≤ upN ns i → r (upN ns i).toNat < r i) (i : Int) :
    ∀ f f' j, j < (ns.length : Int) → (0 ≤ j → r j.toNat < f) → (0 ≤ j → r j.toNat < f') → 0 < f → 0 < f' → aboveF ns f i j = aboveF ns f' i j
  | 0, _, _, _, _, _, h0, _ => by omega
  | _ + 1, 0, _, _, _, _, _, h0 => by omega
  | f + 1, f' + 1, j, hj, h1, h2, _, _ => by
    unfold aboveF
    by_cases hn : j < 0
    · simp [hn]
    · simp only [hn, if_false]
      split
      · rfl
      · by_cases hu : 0 ≤ upN ns j
        · have hlt := hr j.toNat (by omega) (by rw [Int.toNat_of_nonneg (by omega)]; exact hu)
          rw [Int.toNat_of_nonneg (by omega)] at hlt
          exact aboveF_stable h r hr i f f' (upN ns j) (upN_lt h (by omega) hj) (fun _ => by have := h1 (by omega); omega) (fun _ => by have := h2 (by omega); omega) (by have := h1 (by omega); omega) (by have := h2 (by omega); omega)
        · have e : ∀ m, aboveF ns m i (upN ns j) = false := by intro m; cases m <;> simp [aboveF]; omega
          rw [e, e]
/-- One step of 'above'. -/
theorem aboveN_step {ns : List Nd} (h : WF ns) (i j : Int) (hj : j < (ns.length : Int)) : aboveN ns i j = if j < 0 then false else if j == i then true else aboveN ns i (upN ns j) := by
  obtain ⟨r, hb, hr⟩ := h.ranked
  by_cases hn : j < 0
  · simp [aboveN, aboveF, hn]
  · conv => lhs; unfold aboveN aboveF
    simp only [hn, if_false]
    split
    · rfl
    · by_cases hu : 0 ≤ upN ns j
      · have hlt := hr j.toNat (by omega) (by rw [Int.toNat_of_nonneg (by omega)]; exact hu)
        rw [Int.toNat_of_nonneg (by omega)] at hlt
        have h3 := hb j.toNat
        exact aboveF_stable h r hr i _ _ _ (upN_lt h (by omega) hj) (fun _ => by omega) (fun _ => by have := hb (upN ns j).toNat; omega) (by omega) (by omega)
      · have e : ∀ m, aboveF ns m i (upN ns j) = false := by intro m; cases m <;> simp [aboveF]; omega
        unfold aboveN
        rw [e, e]
end Go.Proofs.YtgaebaokcjhcdaaGreatDoor

/- The arena's functions that only read: what each returns; the world is as it was. -/
set_option linter.unusedVariables false
set_option linter.unusedSimpArgs false
namespace Go.Proofs.YtgaebaokcjhcdaaGreatDoor
open Go.RowKit Lz
variable {w : World} {F : Nat → Prop} {a : Nat} {ns : List Nd}

theorem aLen_c (h : ArenaRep w F a ns) :
    Calls Tryz.prog 45 #[.pointer (some ⟨a, 0, none⟩)] w fun e w' => e = .returned (.int .i64 ns.length) ∧ w = w' := by
  obtain ⟨g, cap, cur, va, vk, h⟩ := h
  have hh := h.head
  go_enter Tryz.func45, Tryz.ntmps45
  go_wp2
  go_ret
  exact ⟨rfl, rfl⟩

theorem aNone_c (h : ArenaRep w F a ns) :
    Calls Tryz.prog 121 #[.pointer (some ⟨a, 0, none⟩)] w fun e w' => e = .returned (.bool false) ∧ w = w' := by
  obtain ⟨g, cap, cur, va, vk, h⟩ := h
  have hh := h.head
  have hp := h.pos
  go_enter Tryz.func121, Tryz.ntmps121
  go_wp2
  go_ret
  exact ⟨ret_bool (by simp; intro h0; simp [h0] at hp), rfl⟩

theorem aHas_c (h : ArenaRep w F a ns) (i : Int) :
    Calls Tryz.prog 112 #[.pointer (some ⟨a, 0, none⟩), .int .i64 i] w fun e w' => e = .returned (.bool (hasN ns i)) ∧ w = w' := by
  by_cases h0 : 0 ≤ i
  · go_enter Tryz.func112, Tryz.ntmps112
    go_wp2_with (go_at_call 45; refine (aLen_c h).mono ?_; rintro e w' ⟨rfl, rfl⟩)
    go_ret
    exact ⟨by simp [hasN, h0], rfl⟩
  · have hd : decide (0 ≤ i) = false := by simpa using h0
    have hfin : hasN ns i = false := by simp [hasN, hd]
    go_enter Tryz.func112, Tryz.ntmps112
    go_wp2
    go_ret
    exact ⟨rfl, rfl⟩

theorem kid_c (w : World) (k : Int) :
    Calls Tryz.prog 125 #[.int .i64 k] w fun e w' => e = .returned (.bool (kidKind k)) ∧ w = w' := by
  by_cases h2 : k = 2
  · subst h2
    go_enter Tryz.func125, Tryz.ntmps125
    go_wp2
    go_ret
    exact ⟨rfl, rfl⟩
  by_cases h3 : k = 3
  · subst h3
    go_enter Tryz.func125, Tryz.ntmps125
    go_wp2
    go_ret
    exact ⟨rfl, rfl⟩
  by_cases h4 : k = 4
  · subst h4
    go_enter Tryz.func125, Tryz.ntmps125
    go_wp2
    go_ret
    exact ⟨rfl, rfl⟩
  have e2 : (k == 2) = false := by simpa using h2
  have e3 : (k == 3) = false := by simpa using h3
  have e4 : (k == 4) = false := by simpa using h4
  have hfin : kidKind k = (k == 5) := by simp [kidKind, e2, e3, e4]
  have HF := Lib.hid hfin; clear hfin
  clear h2 h3 h4
  go_enter Tryz.func125, Tryz.ntmps125
  go_wp2
  go_ret
  exact ⟨ret_bool HF.out.symm, rfl⟩

theorem aHolds_c (h : ArenaRep w F a ns) (i : Int) :
    Calls Tryz.prog 122 #[.pointer (some ⟨a, 0, none⟩), .int .i64 i] w fun e w' => e = .returned (.bool (holdsN ns i)) ∧ w = w' := by
  cases hb : hasN ns i
  · have hfin : holdsN ns i = false := by simp [holdsN, hb]
    have HF := Lib.hid hfin; clear hfin
    have HB := Lib.hid hb; clear hb
    go_enter Tryz.func122, Tryz.ntmps122
    go_wp2_with (go_at_call 112; refine (aHas_c h i).mono ?_; rintro e w' ⟨rfl, rfl⟩; rw [HB.out])
    go_ret
    exact ⟨ret_bool HF.out.symm, rfl⟩
  · have hi := (hasN_iff _ _).1 hb
    obtain ⟨hi0, hi1⟩ := hi
    have hfin : holdsN ns i = holdKind (nodeAt ns i).kind := by simp [holdsN, hb]
    have h' := h
    obtain ⟨g, cap, cur, va, vk, hv⟩ := h'
    have hk := hv.kindc i hi0 hi1
    have hh := hv.head
    generalize (nodeAt ns i).kind = k at *
    have HF := Lib.hid hfin; clear hfin
    have HB := Lib.hid hb; clear hb hv
    by_cases h2 : k = 1
    · subst h2
      go_enter Tryz.func122, Tryz.ntmps122
      go_wp2_with (go_at_call 112; refine (aHas_c h i).mono ?_; rintro e w' ⟨rfl, rfl⟩; rw [HB.out])
      go_ret
      exact ⟨ret_bool HF.out.symm, rfl⟩
    by_cases h3 : k = 3
    · subst h3
      go_enter Tryz.func122, Tryz.ntmps122
      go_wp2_with (go_at_call 112; refine (aHas_c h i).mono ?_; rintro e w' ⟨rfl, rfl⟩; rw [HB.out])
      go_ret
      exact ⟨ret_bool HF.out.symm, rfl⟩
    have e2 : (k == 1) = false := by simpa using h2
    have e3 : (k == 3) = false := by simpa using h3
    have hf2 : holdKind k = (k == 6) := by simp [holdKind, e2, e3]
    have HF2 := Lib.hid hf2; clear hf2 h2 h3
    go_enter Tryz.func122, Tryz.ntmps122
    go_wp2_with (go_at_call 112; refine (aHas_c h i).mono ?_; rintro e w' ⟨rfl, rfl⟩; rw [HB.out])
    go_ret
    exact ⟨ret_bool (HF.out.trans HF2.out).symm, rfl⟩

theorem aHangs_c (h : ArenaRep w F a ns) (i : Int) :
    Calls Tryz.prog 128 #[.pointer (some ⟨a, 0, none⟩), .int .i64 i] w fun e w' => e = .returned (.bool (hangsN ns i)) ∧ w = w' := by
  cases hb : hasN ns i
  · have hfin : hangsN ns i = false := by simp [hangsN, hb]
    have HF := Lib.hid hfin; clear hfin
    have HB := Lib.hid hb; clear hb
    go_enter Tryz.func128, Tryz.ntmps128
    go_wp2_with (go_at_call 112; refine (aHas_c h i).mono ?_; rintro e w' ⟨rfl, rfl⟩; rw [HB.out])
    go_ret
    exact ⟨ret_bool HF.out.symm, rfl⟩
  · obtain ⟨hi0, hi1⟩ := (hasN_iff _ _).1 hb
    have hfin : hangsN ns i = kidKind (nodeAt ns i).kind := by simp [hangsN, hb]
    have h' := h
    obtain ⟨g, cap, cur, va, vk, hv⟩ := h'
    have hk := hv.kindc i hi0 hi1
    have hh := hv.head
    generalize (nodeAt ns i).kind = k at *
    have HF := Lib.hid hfin; clear hfin
    have HB := Lib.hid hb; clear hb hv
    go_enter Tryz.func128, Tryz.ntmps128
    go_wp2_with (first | (go_at_call 112; refine (aHas_c h i).mono ?_; rintro e w' ⟨rfl, rfl⟩; rw [HB.out]) | (go_at_call 125; refine (kid_c _ _).mono ?_; rintro e w' ⟨rfl, rfl⟩))
    go_ret
    exact ⟨ret_bool HF.out.symm, rfl⟩

theorem aUp_c (h : ArenaRep w F a ns) (i : Int) (hi0 : 0 ≤ i) (hi1 : i < (ns.length : Int)) :
    Calls Tryz.prog 170 #[.pointer (some ⟨a, 0, none⟩), .int .i64 i] w fun e w' => e = .returned (.int .i64 (upN ns i)) ∧ w = w' := by
  obtain ⟨g, cap, cur, va, vk, hv⟩ := h
  have hs := hv.small
  have hk := hv.kindc i hi0 hi1
  have hp := hv.parentc i hi0 hi1
  have hh := hv.head
  have hfin : upN ns i = if (nodeAt ns i).kind == 6 then i - 1 else (nodeAt ns i).parent := rfl
  generalize (nodeAt ns i).kind = k at *
  generalize (nodeAt ns i).parent = p at *
  have HF := Lib.hid hfin; clear hfin hv
  cases hk6 : k == 6
  · go_enter Tryz.func170, Tryz.ntmps170
    go_wp2
    go_ret
    exact ⟨ret_int (by rw [HF.out, hk6]; rfl), rfl⟩
  · go_enter Tryz.func170, Tryz.ntmps170
    go_wp2
    go_ret
    exact ⟨ret_int (by rw [HF.out, hk6]; rfl), rfl⟩
end Go.Proofs.YtgaebaokcjhcdaaGreatDoor

/- slices.Index and its kin at whole numbers and at texts, by what they return. -/
set_option linter.unusedVariables false
set_option linter.unusedSimpArgs false
namespace Go.Proofs.YtgaebaokcjhcdaaGreatDoor
open Go.RowKit Lz

/-- A row of texts that is read. -/
def StrRow (w : World) (v : Value) (l : List Str) : Prop :=
  l.length ≤ 1048576 ∧ ((∃ c, v = .slice none 0 c ∧ l = []) ∨ ∃ g cap cur fr, v = .slice (some ⟨g, 0, none⟩) l.length cap ∧ w.heap[g]? = some (.cells cur 9 fr) ∧ ∀ i, i < l.length → cur[i]? = some (.string (l.getD i n_empty)))
theorem StrRow.keep {w w' : World} {v : Value} {l : List Str} (h : StrRow w v l) (hk : ∀ k, v.ownBlock = some k → w'.heap[k]? = w.heap[k]?) : StrRow w' v l := by
  obtain ⟨hs, h | ⟨g, cap, cur, fr, rfl, hb, r⟩⟩ := h
  · exact ⟨hs, .inl h⟩
  · exact ⟨hs, .inr ⟨g, cap, cur, fr, rfl, (hk g rfl).trans hb, r⟩⟩
theorem StrRow.lt {w : World} {v : Value} {l : List Str} (h : StrRow w v l) : ∀ k, v.ownBlock = some k → k < w.heap.size := by
  obtain ⟨hs, ⟨c, rfl, _⟩ | ⟨g, cap, cur, fr, rfl, hb, r⟩⟩ := h
  · intro k hk; simp [Value.ownBlock] at hk
  · intro k hk
    have : g = k := by simpa [Value.ownBlock] using hk
    subst this
    exact (Array.getElem?_eq_some_iff.1 hb).1
theorem StrRow.bel {w w' : World} {v : Value} {l : List Str} (h : StrRow w v l) (hb : Bel w w') : StrRow w' v l := h.keep fun k hk => hb.block k (h.lt k hk)
theorem StrRow.form {w : World} {v : Value} {l : List Str} (h : StrRow w v l) :
    ∃ A cap, v = .slice A l.length cap ∧ (0 < l.length → ∃ b, A = some ⟨b, 0, none⟩ ∧ ∀ i, i < l.length → w.cell? ⟨b, i, none⟩ = some (.string (l.getD i n_empty))) := by
  obtain ⟨hs, ⟨c, rfl, rfl⟩ | ⟨g, cap, cur, fr, rfl, hb, r⟩⟩ := h
  · exact ⟨none, c, rfl, fun h => by simp at h⟩
  · exact ⟨_, cap, rfl, fun _ => ⟨g, rfl, fun i hi => by rw [blk_cell hb]; exact r i hi⟩⟩
theorem IntRow.form {w : World} {F : Nat → Prop} {v : Value} {l : List Int} (h : IntRow w F v l) :
    ∃ A cap, v = .slice A l.length cap ∧ (0 < l.length → ∃ b, A = some ⟨b, 0, none⟩ ∧ ∀ i, i < l.length → w.cell? ⟨b, i, none⟩ = some (.int .i64 (l.getD i 0))) := by
  rcases h with ⟨rfl, rfl⟩ | ⟨g, cap, cur, rfl, hF, hb, r1, r2, r3, r⟩
  · exact ⟨none, 0, rfl, fun h => by simp at h⟩
  · exact ⟨_, cap, rfl, fun _ => ⟨g, rfl, fun i hi => by rw [blk_cell hb]; exact r i hi⟩⟩

/-- The first place of x; -1: none. -/
def idxI (xs : List Int) (x : Int) : Int := if x ∈ xs then (xs.idxOf x : Int) else -1
def idxS (xs : List Str) (x : Str) : Int := if x ∈ xs then (xs.idxOf x : Int) else -1

theorem idxOf_at {α : Type} [BEq α] [LawfulBEq α] (xs : List α) (x d : α) (k : Nat) (hk : k < xs.length) (hno : x ∉ xs.take k) (he : xs.getD k d = x) : x ∈ xs ∧ xs.idxOf x = k := by
  have e : xs = xs.take k ++ xs[k] :: xs.drop (k + 1) := by rw [List.getElem_cons_drop, List.take_append_drop]
  have hx : xs[k] = x := by simpa [List.getD, hk] using he
  refine ⟨hx ▸ List.getElem_mem hk, ?_⟩
  rw [e, List.idxOf_append, if_neg hno, hx]
  simp; omega
theorem not_mem_take_succ {α : Type} [BEq α] [LawfulBEq α] (xs : List α) (x d : α) (k : Nat) (hk : k < xs.length) (hno : x ∉ xs.take k) (he : ¬ xs.getD k d = x) : x ∉ xs.take (k + 1) := by
  rw [List.take_succ_eq_append_getElem hk]
  simp only [List.mem_append, List.mem_singleton]
  rintro (h | h)
  · exact hno h
  · exact he (by simp [List.getD, hk, h])

theorem idxInt_c (w : World) (F : Nat → Prop) (v : Value) (xs : List Int) (x : Int) (h : IntRow w F v xs) (hl : xs.length ≤ 1048576) :
    Calls Tryz.prog 123 #[v, .int .i64 x] w fun e w' => e = .returned (.int .i64 (idxI xs x)) ∧ w = w' := by
  obtain ⟨A, cap, rfl, hA⟩ := h.form
  have HA := Lib.hid hA; clear hA h
  go_enter Tryz.func123, Tryz.ntmps123
  go_wp2
  go_loop [5, 8] (fun _ i => ∃ k : Nat, k ≤ xs.length ∧ i = .int .i64 k ∧ x ∉ xs.take k) (fun _ i => xs.length - (intOf i).toNat)
  case atStart => exact ⟨0, Nat.zero_le _, rfl, by simp⟩
  case round =>
    obtain ⟨k, hk, rfl, hno⟩ := hrel
    by_cases hlt : k < xs.length
    · obtain ⟨b, rfl, hc⟩ := HA.out (by omega)
      have hck := hc k hlt
      have H1 := Lib.hid hno
      by_cases he : xs.getD k 0 = x
      · have hi := idxOf_at xs x 0 k hlt hno he
        have hb : (x == xs.getD k 0) = true := by rw [he]; exact beq_self_eq_true _
        have HI := Lib.hid hi
        clear hi he hno hc
        generalize xs.getD k 0 = y at *
        go_wp2
        go_ret
        exact ⟨ret_int (by unfold idxI; rw [if_pos HI.out.1, HI.out.2]), rfl⟩
      · have hn := not_mem_take_succ xs x 0 k hlt hno he
        have hb : (x == xs.getD k 0) = false := beq_eq_false_iff_ne.2 fun e => he e.symm
        have HN := Lib.hid hn
        clear hn he hno hc
        generalize xs.getD k 0 = y at *
        go_wp2
        go_round
        case rel => exact ⟨k + 1, by omega, by go_num, HN.out⟩
        case measure => simp [intOf]; omega
    · have hk' : xs.length ≤ k := by omega
      rw [List.take_of_length_le hk'] at hno
      have HN := Lib.hid hno; clear hno
      go_wp2
      go_ret
      exact ⟨ret_int (by unfold idxI; rw [if_neg HN.out]), rfl⟩

theorem idxStr_c (w : World) (v : Value) (xs : List Str) (x : Str) (h : StrRow w v xs) :
    Calls Tryz.prog 166 #[v, .string x] w fun e w' => e = .returned (.int .i64 (idxS xs x)) ∧ w = w' := by
  have hl := h.1
  obtain ⟨A, cap, rfl, hA⟩ := h.form
  have HA := Lib.hid hA; clear hA h
  go_enter Tryz.func166, Tryz.ntmps166
  go_wp2
  go_loop [5, 8] (fun _ i => ∃ k : Nat, k ≤ xs.length ∧ i = .int .i64 k ∧ x ∉ xs.take k) (fun _ i => xs.length - (intOf i).toNat)
  case atStart => exact ⟨0, Nat.zero_le _, rfl, by simp⟩
  case round =>
    obtain ⟨k, hk, rfl, hno⟩ := hrel
    by_cases hlt : k < xs.length
    · obtain ⟨b, rfl, hc⟩ := HA.out (by omega)
      have hck := hc k hlt
      have H1 := Lib.hid hno
      by_cases he : xs.getD k n_empty = x
      · have hi := idxOf_at xs x n_empty k hlt hno he
        have hb : (x.toList == (xs.getD k n_empty).toList) = true := by rw [beqS, he]; exact beq_self_eq_true _
        have HI := Lib.hid hi
        clear hi he hno hc
        generalize xs.getD k n_empty = y at *
        go_wp2
        go_ret
        exact ⟨ret_int (by unfold idxS; rw [if_pos HI.out.1, HI.out.2]), rfl⟩
      · have hn := not_mem_take_succ xs x n_empty k hlt hno he
        have hb : (x.toList == (xs.getD k n_empty).toList) = false := by rw [beqS]; exact beq_eq_false_iff_ne.2 fun e => he e.symm
        have HN := Lib.hid hn
        clear hn he hno hc
        generalize xs.getD k n_empty = y at *
        go_wp2
        go_round
        case rel => exact ⟨k + 1, by omega, by go_num, HN.out⟩
        case measure => simp [intOf]; omega
    · have hk' : xs.length ≤ k := by omega
      rw [List.take_of_length_le hk'] at hno
      have HN := Lib.hid hno; clear hno
      go_wp2
      go_ret
      exact ⟨ret_int (by unfold idxS; rw [if_neg HN.out]), rfl⟩

theorem hasStr_c (w : World) (v : Value) (xs : List Str) (x : Str) (h : StrRow w v xs) :
    Calls Tryz.prog 114 #[v, .string x] w fun e w' => e = .returned (.bool (xs.contains x)) ∧ w = w' := by
  have hfin : decide (0 ≤ idxS xs x) = xs.contains x := by
    unfold idxS
    by_cases hx : x ∈ xs <;> simp [hx]
  have HF := Lib.hid hfin; clear hfin
  have H := Lib.hid (idxStr_c w v xs x h); clear h
  generalize idxS xs x = r at *
  go_enter Tryz.func114, Tryz.ntmps114
  go_wp2_with (go_at_call 166; refine H.out.mono ?_; rintro e w' ⟨rfl, rfl⟩)
  go_ret
  exact ⟨ret_bool HF.out, rfl⟩
end Go.Proofs.YtgaebaokcjhcdaaGreatDoor
