/-
  NARROWER THAN 'FOR EVERY INPUT', by the rows' own cells (each row's printed sentence says how): BodiesNone: laid · BodiesNested: laid · BodiesParagraphs: laid · BodiesSingle: laid · BodiesBehind: laid.
  DERIVED. THE GIVEN ROWS OF THIS SEAT. 5 by the template 'for every input the law returns true; each argument reads behind the call as it read before'; 0 by the template 'total and deterministic' (their statements: YtgaebaokcjhcdaaGreatDoorTotals.lean).
  GIVEN WITH THE SEED: the statements are not yours to turn. If you find one false, say at which input.
  Laid BY PROGRAM, IN A SANDBOX (cutbox-rows.mjs): the forced cells as the released guide's own fill.sh prints them over the translation f7433d42c9bea0b6… (all of the seat's roots in one cut). By AI agents, Wed Nov 11 2026. No macro, syntax, notation, axiom, sorry.
-/
import Derived.Test.YtgaebaokcjhcdaaGreatDoorChecked
import GoSem.Claim
import GoSem.ClaimJoined
import GoSem.ClaimMapViews
import Derived.JoinedTies
import Derived.KernelRfl
namespace Go.Proofs.YtgaebaokcjhcdaaGreatDoor
/- THE CELL 'sum', in the pinned program and in every row, IS THE sha256 OF THE DUMP (.gsa) THAT YtgaebaokcjhcdaaGreatDoorProg.lean LOADS. Nothing in Lean hashes anything: it is a label: what it is worth is what the hold of that sum in a sandbox is worth. -/
noncomputable def Tryz.pinned : Pinned := { name := "ytgaebaokcjhcdaagreatdoor", sum := "f7433d42c9bea0b6c2b3e37a86e48868a80c6d857da3e9b175db47fef754e394", checked := Tryz.checked }
namespace Rows
def none {H : Type} : Left H := { results := [], args := [] }

/- WHAT THE LISTED PACKAGE-LEVEL VARIABLES READ AS WHEN THE CALL BEGINS. Each datum BY PROGRAM (the guide's laid-datum.mjs) off the statement by which the dump's own 'gosem.cut.vars' lays the variable. In a bare row this is a premise. The card (YtgaebaokcjhcdaaGreatDoorCards.lean) ties it to the program's text. -/
def laid_unicode_White_Space {H : Type} : DataW H := .ptr (.agg [.slice [.agg [.lit (.int .u16 9), .lit (.int .u16 13), .lit (.int .u16 1)], .agg [.lit (.int .u16 32), .lit (.int .u16 133), .lit (.int .u16 101)], .agg [.lit (.int .u16 160), .lit (.int .u16 5760), .lit (.int .u16 5600)], .agg [.lit (.int .u16 8192), .lit (.int .u16 8202), .lit (.int .u16 1)], .agg [.lit (.int .u16 8232), .lit (.int .u16 8233), .lit (.int .u16 1)], .agg [.lit (.int .u16 8239), .lit (.int .u16 8287), .lit (.int .u16 48)], .agg [.lit (.int .u16 12288), .lit (.int .u16 12288), .lit (.int .u16 1)]] [], .nil, .lit (.int .i64 2)])
def laid_strings_asciiSpace {H : Type} : DataW H := .agg [.lit (.int .u8 0), .lit (.int .u8 0), .lit (.int .u8 0), .lit (.int .u8 0), .lit (.int .u8 0), .lit (.int .u8 0), .lit (.int .u8 0), .lit (.int .u8 0), .lit (.int .u8 0), .lit (.int .u8 1), .lit (.int .u8 1), .lit (.int .u8 1), .lit (.int .u8 1), .lit (.int .u8 1), .lit (.int .u8 0), .lit (.int .u8 0), .lit (.int .u8 0), .lit (.int .u8 0), .lit (.int .u8 0), .lit (.int .u8 0), .lit (.int .u8 0), .lit (.int .u8 0), .lit (.int .u8 0), .lit (.int .u8 0), .lit (.int .u8 0), .lit (.int .u8 0), .lit (.int .u8 0), .lit (.int .u8 0), .lit (.int .u8 0), .lit (.int .u8 0), .lit (.int .u8 0), .lit (.int .u8 0), .lit (.int .u8 1), .lit (.int .u8 0), .lit (.int .u8 0), .lit (.int .u8 0), .lit (.int .u8 0), .lit (.int .u8 0), .lit (.int .u8 0), .lit (.int .u8 0), .lit (.int .u8 0), .lit (.int .u8 0), .lit (.int .u8 0), .lit (.int .u8 0), .lit (.int .u8 0), .lit (.int .u8 0), .lit (.int .u8 0), .lit (.int .u8 0), .lit (.int .u8 0), .lit (.int .u8 0), .lit (.int .u8 0), .lit (.int .u8 0), .lit (.int .u8 0), .lit (.int .u8 0), .lit (.int .u8 0), .lit (.int .u8 0), .lit (.int .u8 0), .lit (.int .u8 0), .lit (.int .u8 0), .lit (.int .u8 0), .lit (.int .u8 0), .lit (.int .u8 0), .lit (.int .u8 0), .lit (.int .u8 0), .lit (.int .u8 0), .lit (.int .u8 0), .lit (.int .u8 0), .lit (.int .u8 0), .lit (.int .u8 0), .lit (.int .u8 0), .lit (.int .u8 0), .lit (.int .u8 0), .lit (.int .u8 0), .lit (.int .u8 0), .lit (.int .u8 0), .lit (.int .u8 0), .lit (.int .u8 0), .lit (.int .u8 0), .lit (.int .u8 0), .lit (.int .u8 0), .lit (.int .u8 0), .lit (.int .u8 0), .lit (.int .u8 0), .lit (.int .u8 0), .lit (.int .u8 0), .lit (.int .u8 0), .lit (.int .u8 0), .lit (.int .u8 0), .lit (.int .u8 0), .lit (.int .u8 0), .lit (.int .u8 0), .lit (.int .u8 0), .lit (.int .u8 0), .lit (.int .u8 0), .lit (.int .u8 0), .lit (.int .u8 0), .lit (.int .u8 0), .lit (.int .u8 0), .lit (.int .u8 0), .lit (.int .u8 0), .lit (.int .u8 0), .lit (.int .u8 0), .lit (.int .u8 0), .lit (.int .u8 0), .lit (.int .u8 0), .lit (.int .u8 0), .lit (.int .u8 0), .lit (.int .u8 0), .lit (.int .u8 0), .lit (.int .u8 0), .lit (.int .u8 0), .lit (.int .u8 0), .lit (.int .u8 0), .lit (.int .u8 0), .lit (.int .u8 0), .lit (.int .u8 0), .lit (.int .u8 0), .lit (.int .u8 0), .lit (.int .u8 0), .lit (.int .u8 0), .lit (.int .u8 0), .lit (.int .u8 0), .lit (.int .u8 0), .lit (.int .u8 0), .lit (.int .u8 0), .lit (.int .u8 0), .lit (.int .u8 0), .lit (.int .u8 0), .lit (.int .u8 0), .lit (.int .u8 0), .lit (.int .u8 0), .lit (.int .u8 0), .lit (.int .u8 0), .lit (.int .u8 0), .lit (.int .u8 0), .lit (.int .u8 0), .lit (.int .u8 0), .lit (.int .u8 0), .lit (.int .u8 0), .lit (.int .u8 0), .lit (.int .u8 0), .lit (.int .u8 0), .lit (.int .u8 0), .lit (.int .u8 0), .lit (.int .u8 0), .lit (.int .u8 0), .lit (.int .u8 0), .lit (.int .u8 0), .lit (.int .u8 0), .lit (.int .u8 0), .lit (.int .u8 0), .lit (.int .u8 0), .lit (.int .u8 0), .lit (.int .u8 0), .lit (.int .u8 0), .lit (.int .u8 0), .lit (.int .u8 0), .lit (.int .u8 0), .lit (.int .u8 0), .lit (.int .u8 0), .lit (.int .u8 0), .lit (.int .u8 0), .lit (.int .u8 0), .lit (.int .u8 0), .lit (.int .u8 0), .lit (.int .u8 0), .lit (.int .u8 0), .lit (.int .u8 0), .lit (.int .u8 0), .lit (.int .u8 0), .lit (.int .u8 0), .lit (.int .u8 0), .lit (.int .u8 0), .lit (.int .u8 0), .lit (.int .u8 0), .lit (.int .u8 0), .lit (.int .u8 0), .lit (.int .u8 0), .lit (.int .u8 0), .lit (.int .u8 0), .lit (.int .u8 0), .lit (.int .u8 0), .lit (.int .u8 0), .lit (.int .u8 0), .lit (.int .u8 0), .lit (.int .u8 0), .lit (.int .u8 0), .lit (.int .u8 0), .lit (.int .u8 0), .lit (.int .u8 0), .lit (.int .u8 0), .lit (.int .u8 0), .lit (.int .u8 0), .lit (.int .u8 0), .lit (.int .u8 0), .lit (.int .u8 0), .lit (.int .u8 0), .lit (.int .u8 0), .lit (.int .u8 0), .lit (.int .u8 0), .lit (.int .u8 0), .lit (.int .u8 0), .lit (.int .u8 0), .lit (.int .u8 0), .lit (.int .u8 0), .lit (.int .u8 0), .lit (.int .u8 0), .lit (.int .u8 0), .lit (.int .u8 0), .lit (.int .u8 0), .lit (.int .u8 0), .lit (.int .u8 0), .lit (.int .u8 0), .lit (.int .u8 0), .lit (.int .u8 0), .lit (.int .u8 0), .lit (.int .u8 0), .lit (.int .u8 0), .lit (.int .u8 0), .lit (.int .u8 0), .lit (.int .u8 0), .lit (.int .u8 0), .lit (.int .u8 0), .lit (.int .u8 0), .lit (.int .u8 0), .lit (.int .u8 0), .lit (.int .u8 0), .lit (.int .u8 0), .lit (.int .u8 0), .lit (.int .u8 0), .lit (.int .u8 0), .lit (.int .u8 0), .lit (.int .u8 0), .lit (.int .u8 0), .lit (.int .u8 0), .lit (.int .u8 0), .lit (.int .u8 0), .lit (.int .u8 0), .lit (.int .u8 0), .lit (.int .u8 0), .lit (.int .u8 0), .lit (.int .u8 0), .lit (.int .u8 0), .lit (.int .u8 0), .lit (.int .u8 0), .lit (.int .u8 0), .lit (.int .u8 0), .lit (.int .u8 0), .lit (.int .u8 0), .lit (.int .u8 0), .lit (.int .u8 0), .lit (.int .u8 0), .lit (.int .u8 0), .lit (.int .u8 0), .lit (.int .u8 0), .lit (.int .u8 0)]
def laid_lazaret_kinds_scopes {H : Type} : DataW H := .agg [.lit (.string [32, 97, 112, 112, 108, 101, 116, 32, 99, 97, 112, 116, 105, 111, 110, 32, 104, 116, 109, 108, 32, 109, 97, 114, 113, 117, 101, 101, 32, 111, 98, 106, 101, 99, 116, 32, 116, 97, 98, 108, 101, 32, 116, 100, 32, 116, 101, 109, 112, 108, 97, 116, 101, 32, 116, 104, 32]), .lit (.string [32, 97, 112, 112, 108, 101, 116, 32, 99, 97, 112, 116, 105, 111, 110, 32, 104, 116, 109, 108, 32, 109, 97, 114, 113, 117, 101, 101, 32, 111, 98, 106, 101, 99, 116, 32, 116, 97, 98, 108, 101, 32, 116, 100, 32, 116, 101, 109, 112, 108, 97, 116, 101, 32, 116, 104, 32, 111, 108, 32, 117, 108, 32]), .lit (.string [32, 97, 112, 112, 108, 101, 116, 32, 99, 97, 112, 116, 105, 111, 110, 32, 104, 116, 109, 108, 32, 109, 97, 114, 113, 117, 101, 101, 32, 111, 98, 106, 101, 99, 116, 32, 116, 97, 98, 108, 101, 32, 116, 100, 32, 116, 101, 109, 112, 108, 97, 116, 101, 32, 116, 104, 32, 98, 117, 116, 116, 111, 110, 32]), .lit (.string [32, 104, 116, 109, 108, 32, 116, 97, 98, 108, 101, 32, 116, 101, 109, 112, 108, 97, 116, 101, 32])]
def laid_lazaret_builder_by {H : Type} : DataW H := .map [(.string [98, 111, 100, 121], .lit (.int .i64 6)), (.string [99, 97, 112, 116, 105, 111, 110], .lit (.int .i64 10)), (.string [99, 111, 108, 103, 114, 111, 117, 112], .lit (.int .i64 11)), (.string [104, 101, 97, 100], .lit (.int .i64 3)), (.string [116, 97, 98, 108, 101], .lit (.int .i64 8)), (.string [116, 98, 111, 100, 121], .lit (.int .i64 12)), (.string [116, 100], .lit (.int .i64 14)), (.string [116, 102, 111, 111, 116], .lit (.int .i64 12)), (.string [116, 104], .lit (.int .i64 14)), (.string [116, 104, 101, 97, 100], .lit (.int .i64 12)), (.string [116, 114], .lit (.int .i64 13))]
def laid_lazaret_bodies_headings {H : Type} : DataW H := .slice [.lit (.string [104, 49]), .lit (.string [104, 50]), .lit (.string [104, 51]), .lit (.string [104, 52]), .lit (.string [104, 53]), .lit (.string [104, 54])] []

/-- 'lazaretlaw20.BodiesNone': WHATEVER THE INPUT: true; the input reads as it did. -/
def bodiesNoneSpec : ChangeSpec := { name := "bodiesNone", fn := fun _ => fun
  | [d] => { results := [.lit (.bool true)], args := [d] }
  | _ => none }
def bodiesNoneRow : OpenClaim := { program := "ytgaebaokcjhcdaagreatdoor", sum := "f7433d42c9bea0b6c2b3e37a86e48868a80c6d857da3e9b175db47fef754e394", func := "lazaret/lazaretlaw20.BodiesNone", spec := "bodiesNone", inPlace := ["slices.overlaps[lazaret/stack.open]", "slices.overlaps[int]", "internal/bytealg.IndexByteString", "internal/bytealg.IndexString"], unfollowed := true, recurses := true, named := ["lazaret/builder.by", "internal/bytealg.MaxLen", "lazaret/kinds.scopes", "lazaret/bodies.headings", "strings.asciiSpace", "unicode.White_Space"], apart := false, laid := [("unicode.White_Space", laid_unicode_White_Space), ("strings.asciiSpace", laid_strings_asciiSpace), ("lazaret/kinds.scopes", laid_lazaret_kinds_scopes), ("lazaret/builder.by", laid_lazaret_builder_by), ("lazaret/bodies.headings", laid_lazaret_bodies_headings)] }
def BodiesNoneSaid : Prop := bodiesNoneRow.holds Tryz.pinned (OpenSpec.ofChange bodiesNoneSpec)

/-- ITS FALSE NEIGHBOUR: 'it returns false'. Refute it at one input. -/
def bodiesNoneWrong : ChangeSpec := { name := "bodiesNone", fn := fun _ => fun
  | [d] => { results := [.lit (.bool false)], args := [d] }
  | _ => none }
def BodiesNoneWrongFalsely : Prop := bodiesNoneRow.holds Tryz.pinned (OpenSpec.ofChange bodiesNoneWrong)

/-- 'lazaretlaw20.BodiesNested': WHATEVER THE INPUT: true; the input reads as it did. -/
def bodiesNestedSpec : ChangeSpec := { name := "bodiesNested", fn := fun _ => fun
  | [d] => { results := [.lit (.bool true)], args := [d] }
  | _ => none }
def bodiesNestedRow : OpenClaim := { program := "ytgaebaokcjhcdaagreatdoor", sum := "f7433d42c9bea0b6c2b3e37a86e48868a80c6d857da3e9b175db47fef754e394", func := "lazaret/lazaretlaw20.BodiesNested", spec := "bodiesNested", inPlace := ["slices.overlaps[lazaret/stack.open]", "slices.overlaps[int]", "internal/bytealg.IndexByteString", "internal/bytealg.IndexString"], unfollowed := true, recurses := true, named := ["lazaret/builder.by", "internal/bytealg.MaxLen", "lazaret/kinds.scopes", "lazaret/bodies.headings", "strings.asciiSpace", "unicode.White_Space"], apart := false, laid := [("unicode.White_Space", laid_unicode_White_Space), ("strings.asciiSpace", laid_strings_asciiSpace), ("lazaret/kinds.scopes", laid_lazaret_kinds_scopes), ("lazaret/builder.by", laid_lazaret_builder_by), ("lazaret/bodies.headings", laid_lazaret_bodies_headings)] }
def BodiesNestedSaid : Prop := bodiesNestedRow.holds Tryz.pinned (OpenSpec.ofChange bodiesNestedSpec)

/-- ITS FALSE NEIGHBOUR: 'it returns false'. Refute it at one input. -/
def bodiesNestedWrong : ChangeSpec := { name := "bodiesNested", fn := fun _ => fun
  | [d] => { results := [.lit (.bool false)], args := [d] }
  | _ => none }
def BodiesNestedWrongFalsely : Prop := bodiesNestedRow.holds Tryz.pinned (OpenSpec.ofChange bodiesNestedWrong)

/-- 'lazaretlaw20.BodiesParagraphs': WHATEVER THE INPUT: true; the input reads as it did. -/
def bodiesParagraphsSpec : ChangeSpec := { name := "bodiesParagraphs", fn := fun _ => fun
  | [d] => { results := [.lit (.bool true)], args := [d] }
  | _ => none }
def bodiesParagraphsRow : OpenClaim := { program := "ytgaebaokcjhcdaagreatdoor", sum := "f7433d42c9bea0b6c2b3e37a86e48868a80c6d857da3e9b175db47fef754e394", func := "lazaret/lazaretlaw20.BodiesParagraphs", spec := "bodiesParagraphs", inPlace := ["slices.overlaps[lazaret/stack.open]", "slices.overlaps[int]", "internal/bytealg.IndexByteString", "internal/bytealg.IndexString"], unfollowed := true, recurses := true, named := ["lazaret/builder.by", "internal/bytealg.MaxLen", "lazaret/kinds.scopes", "lazaret/bodies.headings", "strings.asciiSpace", "unicode.White_Space"], apart := false, laid := [("unicode.White_Space", laid_unicode_White_Space), ("strings.asciiSpace", laid_strings_asciiSpace), ("lazaret/kinds.scopes", laid_lazaret_kinds_scopes), ("lazaret/builder.by", laid_lazaret_builder_by), ("lazaret/bodies.headings", laid_lazaret_bodies_headings)] }
def BodiesParagraphsSaid : Prop := bodiesParagraphsRow.holds Tryz.pinned (OpenSpec.ofChange bodiesParagraphsSpec)

/-- ITS FALSE NEIGHBOUR: 'it returns false'. Refute it at one input. -/
def bodiesParagraphsWrong : ChangeSpec := { name := "bodiesParagraphs", fn := fun _ => fun
  | [d] => { results := [.lit (.bool false)], args := [d] }
  | _ => none }
def BodiesParagraphsWrongFalsely : Prop := bodiesParagraphsRow.holds Tryz.pinned (OpenSpec.ofChange bodiesParagraphsWrong)

/-- 'lazaretlaw20.BodiesSingle': WHATEVER THE INPUT: true; the input reads as it did. -/
def bodiesSingleSpec : ChangeSpec := { name := "bodiesSingle", fn := fun _ => fun
  | [d1, d2] => { results := [.lit (.bool true)], args := [d1, d2] }
  | _ => none }
def bodiesSingleRow : OpenClaim := { program := "ytgaebaokcjhcdaagreatdoor", sum := "f7433d42c9bea0b6c2b3e37a86e48868a80c6d857da3e9b175db47fef754e394", func := "lazaret/lazaretlaw20.BodiesSingle", spec := "bodiesSingle", inPlace := ["slices.overlaps[lazaret/stack.open]", "slices.overlaps[int]", "internal/bytealg.IndexByteString", "internal/bytealg.IndexString"], unfollowed := true, recurses := true, named := ["lazaret/builder.by", "internal/bytealg.MaxLen", "lazaret/kinds.scopes", "lazaret/bodies.headings", "strings.asciiSpace", "unicode.White_Space"], apart := false, laid := [("unicode.White_Space", laid_unicode_White_Space), ("strings.asciiSpace", laid_strings_asciiSpace), ("lazaret/kinds.scopes", laid_lazaret_kinds_scopes), ("lazaret/builder.by", laid_lazaret_builder_by), ("lazaret/bodies.headings", laid_lazaret_bodies_headings)] }
def BodiesSingleSaid : Prop := bodiesSingleRow.holds Tryz.pinned (OpenSpec.ofChange bodiesSingleSpec)

/-- ITS FALSE NEIGHBOUR: 'it returns false'. Refute it at one input. -/
def bodiesSingleWrong : ChangeSpec := { name := "bodiesSingle", fn := fun _ => fun
  | [d1, d2] => { results := [.lit (.bool false)], args := [d1, d2] }
  | _ => none }
def BodiesSingleWrongFalsely : Prop := bodiesSingleRow.holds Tryz.pinned (OpenSpec.ofChange bodiesSingleWrong)

/-- 'lazaretlaw20.BodiesBehind': WHATEVER THE INPUT: true; the input reads as it did. -/
def bodiesBehindSpec : ChangeSpec := { name := "bodiesBehind", fn := fun _ => fun
  | [d1, d2] => { results := [.lit (.bool true)], args := [d1, d2] }
  | _ => none }
def bodiesBehindRow : OpenClaim := { program := "ytgaebaokcjhcdaagreatdoor", sum := "f7433d42c9bea0b6c2b3e37a86e48868a80c6d857da3e9b175db47fef754e394", func := "lazaret/lazaretlaw20.BodiesBehind", spec := "bodiesBehind", inPlace := ["slices.overlaps[lazaret/stack.open]", "slices.overlaps[int]", "internal/bytealg.IndexByteString", "internal/bytealg.IndexString"], unfollowed := true, recurses := true, named := ["lazaret/builder.by", "internal/bytealg.MaxLen", "lazaret/kinds.scopes", "lazaret/bodies.headings", "strings.asciiSpace", "unicode.White_Space"], apart := false, laid := [("unicode.White_Space", laid_unicode_White_Space), ("strings.asciiSpace", laid_strings_asciiSpace), ("lazaret/kinds.scopes", laid_lazaret_kinds_scopes), ("lazaret/builder.by", laid_lazaret_builder_by), ("lazaret/bodies.headings", laid_lazaret_bodies_headings)] }
def BodiesBehindSaid : Prop := bodiesBehindRow.holds Tryz.pinned (OpenSpec.ofChange bodiesBehindSpec)

/-- ITS FALSE NEIGHBOUR: 'it returns false'. Refute it at one input. -/
def bodiesBehindWrong : ChangeSpec := { name := "bodiesBehind", fn := fun _ => fun
  | [d1, d2] => { results := [.lit (.bool false)], args := [d1, d2] }
  | _ => none }
def BodiesBehindWrongFalsely : Prop := bodiesBehindRow.holds Tryz.pinned (OpenSpec.ofChange bodiesBehindWrong)

/- THE SECOND FORM. 'bulk': how many values and letters a reading holds, each counted each time it is reached (what is shared counts as often as it is met; a slice's spare places count too). A statement '..UptoSaid' is the law's where the arguments, and the package variables that the reading takes, are together of bulk at most 1048576: NARROWER than '..Said'. Prove '..Said' where nothing that the law and all that it calls make is longer than what came in: it says more and counts as full. Else prove '..UptoSaid'. A law counts once. -/
mutual
def uptoBulk {H : Type} : DataW H → Nat
  | .lit (.string bytes) => bytes.length + 1
  | .lit _ => 1
  | .nil => 1
  | .ptr d => uptoBulk d + 1
  | .slice elems spare => uptoBulkAll elems + uptoBulkAll spare + 1
  | .agg parts => uptoBulkAll parts + 1
  | .iface _ d => uptoBulk d + 1
  | .map entries => uptoBulkEntries entries + 1
  | .held _ => 1
def uptoBulkAll {H : Type} : List (DataW H) → Nat
  | [] => 0
  | d :: r => uptoBulk d + uptoBulkAll r
def uptoBulkEntries {H : Type} : List (Lit × DataW H) → Nat
  | [] => 0
  | x :: r => uptoBulkEntry x + uptoBulkEntries r
def uptoBulkEntry {H : Type} : Lit × DataW H → Nat
  | (.string bytes, d) => bytes.length + uptoBulk d + 1
  | (_, d) => uptoBulk d + 1
 end
def uptoSmall : (H : Type) → List (DataW H) → Bool := fun _ ds => decide (uptoBulkAll ds ≤ 1048576)
def OpenSpec.upto (s : _root_.Go.ChangeSpec) : _root_.Go.OpenSpec := { _root_.Go.OpenSpec.ofChange s with cond := some uptoSmall }

/-- 'lazaretlaw20.BodiesNone', WHERE WHAT IT READS IS OF BULK AT MOST 1048576: true; the input reads as it did. -/
def bodiesNoneUptoRow : OpenClaim := { program := "ytgaebaokcjhcdaagreatdoor", sum := "f7433d42c9bea0b6c2b3e37a86e48868a80c6d857da3e9b175db47fef754e394", func := "lazaret/lazaretlaw20.BodiesNone", spec := "bodiesNone", inPlace := ["slices.overlaps[lazaret/stack.open]", "slices.overlaps[int]", "internal/bytealg.IndexByteString", "internal/bytealg.IndexString"], unfollowed := true, recurses := true, named := ["lazaret/builder.by", "internal/bytealg.MaxLen", "lazaret/kinds.scopes", "lazaret/bodies.headings", "strings.asciiSpace", "unicode.White_Space"], apart := false, laid := [("unicode.White_Space", laid_unicode_White_Space), ("strings.asciiSpace", laid_strings_asciiSpace), ("lazaret/kinds.scopes", laid_lazaret_kinds_scopes), ("lazaret/builder.by", laid_lazaret_builder_by), ("lazaret/bodies.headings", laid_lazaret_bodies_headings)], narrowed := true }
def BodiesNoneUptoSaid : Prop := bodiesNoneUptoRow.holds Tryz.pinned (OpenSpec.upto bodiesNoneSpec)

/-- 'lazaretlaw20.BodiesNested', WHERE WHAT IT READS IS OF BULK AT MOST 1048576: true; the input reads as it did. -/
def bodiesNestedUptoRow : OpenClaim := { program := "ytgaebaokcjhcdaagreatdoor", sum := "f7433d42c9bea0b6c2b3e37a86e48868a80c6d857da3e9b175db47fef754e394", func := "lazaret/lazaretlaw20.BodiesNested", spec := "bodiesNested", inPlace := ["slices.overlaps[lazaret/stack.open]", "slices.overlaps[int]", "internal/bytealg.IndexByteString", "internal/bytealg.IndexString"], unfollowed := true, recurses := true, named := ["lazaret/builder.by", "internal/bytealg.MaxLen", "lazaret/kinds.scopes", "lazaret/bodies.headings", "strings.asciiSpace", "unicode.White_Space"], apart := false, laid := [("unicode.White_Space", laid_unicode_White_Space), ("strings.asciiSpace", laid_strings_asciiSpace), ("lazaret/kinds.scopes", laid_lazaret_kinds_scopes), ("lazaret/builder.by", laid_lazaret_builder_by), ("lazaret/bodies.headings", laid_lazaret_bodies_headings)], narrowed := true }
def BodiesNestedUptoSaid : Prop := bodiesNestedUptoRow.holds Tryz.pinned (OpenSpec.upto bodiesNestedSpec)

/-- 'lazaretlaw20.BodiesParagraphs', WHERE WHAT IT READS IS OF BULK AT MOST 1048576: true; the input reads as it did. -/
def bodiesParagraphsUptoRow : OpenClaim := { program := "ytgaebaokcjhcdaagreatdoor", sum := "f7433d42c9bea0b6c2b3e37a86e48868a80c6d857da3e9b175db47fef754e394", func := "lazaret/lazaretlaw20.BodiesParagraphs", spec := "bodiesParagraphs", inPlace := ["slices.overlaps[lazaret/stack.open]", "slices.overlaps[int]", "internal/bytealg.IndexByteString", "internal/bytealg.IndexString"], unfollowed := true, recurses := true, named := ["lazaret/builder.by", "internal/bytealg.MaxLen", "lazaret/kinds.scopes", "lazaret/bodies.headings", "strings.asciiSpace", "unicode.White_Space"], apart := false, laid := [("unicode.White_Space", laid_unicode_White_Space), ("strings.asciiSpace", laid_strings_asciiSpace), ("lazaret/kinds.scopes", laid_lazaret_kinds_scopes), ("lazaret/builder.by", laid_lazaret_builder_by), ("lazaret/bodies.headings", laid_lazaret_bodies_headings)], narrowed := true }
def BodiesParagraphsUptoSaid : Prop := bodiesParagraphsUptoRow.holds Tryz.pinned (OpenSpec.upto bodiesParagraphsSpec)

/-- 'lazaretlaw20.BodiesSingle', WHERE WHAT IT READS IS OF BULK AT MOST 1048576: true; the input reads as it did. -/
def bodiesSingleUptoRow : OpenClaim := { program := "ytgaebaokcjhcdaagreatdoor", sum := "f7433d42c9bea0b6c2b3e37a86e48868a80c6d857da3e9b175db47fef754e394", func := "lazaret/lazaretlaw20.BodiesSingle", spec := "bodiesSingle", inPlace := ["slices.overlaps[lazaret/stack.open]", "slices.overlaps[int]", "internal/bytealg.IndexByteString", "internal/bytealg.IndexString"], unfollowed := true, recurses := true, named := ["lazaret/builder.by", "internal/bytealg.MaxLen", "lazaret/kinds.scopes", "lazaret/bodies.headings", "strings.asciiSpace", "unicode.White_Space"], apart := false, laid := [("unicode.White_Space", laid_unicode_White_Space), ("strings.asciiSpace", laid_strings_asciiSpace), ("lazaret/kinds.scopes", laid_lazaret_kinds_scopes), ("lazaret/builder.by", laid_lazaret_builder_by), ("lazaret/bodies.headings", laid_lazaret_bodies_headings)], narrowed := true }
def BodiesSingleUptoSaid : Prop := bodiesSingleUptoRow.holds Tryz.pinned (OpenSpec.upto bodiesSingleSpec)

/-- 'lazaretlaw20.BodiesBehind', WHERE WHAT IT READS IS OF BULK AT MOST 1048576: true; the input reads as it did. -/
def bodiesBehindUptoRow : OpenClaim := { program := "ytgaebaokcjhcdaagreatdoor", sum := "f7433d42c9bea0b6c2b3e37a86e48868a80c6d857da3e9b175db47fef754e394", func := "lazaret/lazaretlaw20.BodiesBehind", spec := "bodiesBehind", inPlace := ["slices.overlaps[lazaret/stack.open]", "slices.overlaps[int]", "internal/bytealg.IndexByteString", "internal/bytealg.IndexString"], unfollowed := true, recurses := true, named := ["lazaret/builder.by", "internal/bytealg.MaxLen", "lazaret/kinds.scopes", "lazaret/bodies.headings", "strings.asciiSpace", "unicode.White_Space"], apart := false, laid := [("unicode.White_Space", laid_unicode_White_Space), ("strings.asciiSpace", laid_strings_asciiSpace), ("lazaret/kinds.scopes", laid_lazaret_kinds_scopes), ("lazaret/builder.by", laid_lazaret_builder_by), ("lazaret/bodies.headings", laid_lazaret_bodies_headings)], narrowed := true }
def BodiesBehindUptoSaid : Prop := bodiesBehindUptoRow.holds Tryz.pinned (OpenSpec.upto bodiesBehindSpec)

end Rows
end Go.Proofs.YtgaebaokcjhcdaaGreatDoor
