/-
  DERIVED. GIVEN WITH THE SEED: THE CARDS: each row of YtgaebaokcjhcdaaGreatDoorRows.lean that lists a variable, with what it lists TIED to the program's text (the seventh form; the later family's looks); each row that meets fmt, with fmt's text TOLD by the authors' own Lean function (tested against real Go, not proved from fmt's source: count such statements apart). THE CARD IS WHAT COUNTS. Prove the row's statement (the work); the ties are given (YtgaebaokcjhcdaaGreatDoorTie.lean); close each card by the builder's one call (the guide's Derived/Test/ToyasCard.lean, 'card_holds'). Laid BY PROGRAM, IN A SANDBOX (cutbox-door.mjs). By AI agents, Wed Nov 11 2026. No macro, syntax, notation, axiom, sorry.
-/
import Derived.Test.YtgaebaokcjhcdaaGreatDoorRows
import GoSem.ClaimSeven
namespace Go.Proofs.YtgaebaokcjhcdaaGreatDoor
namespace Rows

/-- THE TIED CARD OF 'lazaretlaw20.BodiesNone'. -/
def bodiesNoneCard : Claim7 := { stood := { row := bodiesNoneRow, standIns := [], harness := (true, "dac595ffb042e58143650618237b8fcac8c12149f86d5299d22ce237a7d838c5"), looks := false }, kinds := [], alts := [], laidByText := true, laidKinds := [.listed, .data, .data, .mapped, .widerDeep], laidTests := true, laidLooks := .later }
def BodiesNoneCardSaid : Prop := Claim7.holds Tryz.pinned (.plain (OpenSpec.ofChange bodiesNoneSpec)) bodiesNoneCard

/-- THE TIED CARD OF 'lazaretlaw20.BodiesNested'. -/
def bodiesNestedCard : Claim7 := { stood := { row := bodiesNestedRow, standIns := [], harness := (true, "dac595ffb042e58143650618237b8fcac8c12149f86d5299d22ce237a7d838c5"), looks := false }, kinds := [], alts := [], laidByText := true, laidKinds := [.listed, .data, .data, .mapped, .widerDeep], laidTests := true, laidLooks := .later }
def BodiesNestedCardSaid : Prop := Claim7.holds Tryz.pinned (.plain (OpenSpec.ofChange bodiesNestedSpec)) bodiesNestedCard

/-- THE TIED CARD OF 'lazaretlaw20.BodiesParagraphs'. -/
def bodiesParagraphsCard : Claim7 := { stood := { row := bodiesParagraphsRow, standIns := [], harness := (true, "dac595ffb042e58143650618237b8fcac8c12149f86d5299d22ce237a7d838c5"), looks := false }, kinds := [], alts := [], laidByText := true, laidKinds := [.listed, .data, .data, .mapped, .widerDeep], laidTests := true, laidLooks := .later }
def BodiesParagraphsCardSaid : Prop := Claim7.holds Tryz.pinned (.plain (OpenSpec.ofChange bodiesParagraphsSpec)) bodiesParagraphsCard

/-- THE TIED CARD OF 'lazaretlaw20.BodiesSingle'. -/
def bodiesSingleCard : Claim7 := { stood := { row := bodiesSingleRow, standIns := [], harness := (true, "dac595ffb042e58143650618237b8fcac8c12149f86d5299d22ce237a7d838c5"), looks := false }, kinds := [], alts := [], laidByText := true, laidKinds := [.listed, .data, .data, .mapped, .widerDeep], laidTests := true, laidLooks := .later }
def BodiesSingleCardSaid : Prop := Claim7.holds Tryz.pinned (.plain (OpenSpec.ofChange bodiesSingleSpec)) bodiesSingleCard

/-- THE TIED CARD OF 'lazaretlaw20.BodiesBehind'. -/
def bodiesBehindCard : Claim7 := { stood := { row := bodiesBehindRow, standIns := [], harness := (true, "dac595ffb042e58143650618237b8fcac8c12149f86d5299d22ce237a7d838c5"), looks := false }, kinds := [], alts := [], laidByText := true, laidKinds := [.listed, .data, .data, .mapped, .widerDeep], laidTests := true, laidLooks := .later }
def BodiesBehindCardSaid : Prop := Claim7.holds Tryz.pinned (.plain (OpenSpec.ofChange bodiesBehindSpec)) bodiesBehindCard

/-- THE SECOND FORM's CARD OF 'lazaretlaw20.BodiesNone'. -/
def bodiesNoneUptoCard : Claim7 := { stood := { row := bodiesNoneUptoRow, standIns := [], harness := (true, "dac595ffb042e58143650618237b8fcac8c12149f86d5299d22ce237a7d838c5"), looks := false }, kinds := [], alts := [], laidByText := true, laidKinds := [.listed, .data, .data, .mapped, .widerDeep], laidTests := true, laidLooks := .later }
def BodiesNoneUptoCardSaid : Prop := Claim7.holds Tryz.pinned (.plain (OpenSpec.upto bodiesNoneSpec)) bodiesNoneUptoCard

/-- THE SECOND FORM's CARD OF 'lazaretlaw20.BodiesNested'. -/
def bodiesNestedUptoCard : Claim7 := { stood := { row := bodiesNestedUptoRow, standIns := [], harness := (true, "dac595ffb042e58143650618237b8fcac8c12149f86d5299d22ce237a7d838c5"), looks := false }, kinds := [], alts := [], laidByText := true, laidKinds := [.listed, .data, .data, .mapped, .widerDeep], laidTests := true, laidLooks := .later }
def BodiesNestedUptoCardSaid : Prop := Claim7.holds Tryz.pinned (.plain (OpenSpec.upto bodiesNestedSpec)) bodiesNestedUptoCard

/-- THE SECOND FORM's CARD OF 'lazaretlaw20.BodiesParagraphs'. -/
def bodiesParagraphsUptoCard : Claim7 := { stood := { row := bodiesParagraphsUptoRow, standIns := [], harness := (true, "dac595ffb042e58143650618237b8fcac8c12149f86d5299d22ce237a7d838c5"), looks := false }, kinds := [], alts := [], laidByText := true, laidKinds := [.listed, .data, .data, .mapped, .widerDeep], laidTests := true, laidLooks := .later }
def BodiesParagraphsUptoCardSaid : Prop := Claim7.holds Tryz.pinned (.plain (OpenSpec.upto bodiesParagraphsSpec)) bodiesParagraphsUptoCard

/-- THE SECOND FORM's CARD OF 'lazaretlaw20.BodiesSingle'. -/
def bodiesSingleUptoCard : Claim7 := { stood := { row := bodiesSingleUptoRow, standIns := [], harness := (true, "dac595ffb042e58143650618237b8fcac8c12149f86d5299d22ce237a7d838c5"), looks := false }, kinds := [], alts := [], laidByText := true, laidKinds := [.listed, .data, .data, .mapped, .widerDeep], laidTests := true, laidLooks := .later }
def BodiesSingleUptoCardSaid : Prop := Claim7.holds Tryz.pinned (.plain (OpenSpec.upto bodiesSingleSpec)) bodiesSingleUptoCard

/-- THE SECOND FORM's CARD OF 'lazaretlaw20.BodiesBehind'. -/
def bodiesBehindUptoCard : Claim7 := { stood := { row := bodiesBehindUptoRow, standIns := [], harness := (true, "dac595ffb042e58143650618237b8fcac8c12149f86d5299d22ce237a7d838c5"), looks := false }, kinds := [], alts := [], laidByText := true, laidKinds := [.listed, .data, .data, .mapped, .widerDeep], laidTests := true, laidLooks := .later }
def BodiesBehindUptoCardSaid : Prop := Claim7.holds Tryz.pinned (.plain (OpenSpec.upto bodiesBehindSpec)) bodiesBehindUptoCard
end Rows
end Go.Proofs.YtgaebaokcjhcdaaGreatDoor
