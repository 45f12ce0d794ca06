/- The law BodiesBehind answers true at every text and every number; conditions: the listed package-level variables hold what the program's text lays in them, and the word of each other variable is of its kind. -/
import Derived.Test.YtgaebaokcjhcdaaGreatDoorB01
import Derived.Test.YtgaebaokcjhcdaaGreatDoorTie
import Derived.Test.YtgaebaokcjhcdaaGreatDoorCards
import Derived.SevenTiedAt

namespace Go.Proofs.YtgaebaokcjhcdaaGreatDoor
open Go

theorem bodiesBehind_card : Rows.BodiesBehindCardSaid :=
  Claim7.holds_tied_plain_at .later [] [.listed, .data, .data, .mapped, .widerDeep] true (true, "dac595ffb042e58143650618237b8fcac8c12149f86d5299d22ce237a7d838c5") false
    bodiesBehind_holds (fun _ h => by cases h) (by kernel_rfl) (fun _ h => by cases h) bodiesBehind_row_tie rfl ⟨rfl, rfl⟩ (by kernel_rfl) rfl
    (fun f fn hf hfn => by
      obtain rfl : f = 7 := Option.some.inj ((show Tryz.prog.funcNamed "lazaret/lazaretlaw20.BodiesBehind" = some 7 by kernel_rfl).symm.trans hf) |>.symm
      obtain rfl : fn = Tryz.f7 := (Option.some.inj (Tryz.func7.symm.trans hfn)).symm
      exact ⟨by kernel_rfl, fun j t ht => by
        rw [Tryz.params7] at ht
        have hm : t ∈ [9, 5] := by simpa using Array.mem_of_getElem? ht
        have hall : ([9, 5].all fun u => !Tryz.prog.wantsStandIn u) = true := by kernel_rfl
        exact (show Tryz.prog.wantsStandIn t = false by simpa using List.all_eq_true.1 hall t hm)⟩)
    (by kernel_rfl)
#print axioms bodiesBehind_card
end Go.Proofs.YtgaebaokcjhcdaaGreatDoor
