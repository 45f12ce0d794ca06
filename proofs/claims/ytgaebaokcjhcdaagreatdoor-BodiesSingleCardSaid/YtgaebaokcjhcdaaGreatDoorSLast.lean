/- The law BodiesSingle answers true at every number and every slice of bytes, and the slice reads behind the call as it read before; conditions: the listed package-level variables hold what the program's text lays in them, and the word of each other variable is of its kind. -/
import Derived.Test.YtgaebaokcjhcdaaGreatDoorS01
import Derived.Test.YtgaebaokcjhcdaaGreatDoorTie
import Derived.Test.YtgaebaokcjhcdaaGreatDoorCards
import Derived.SevenTiedAt

namespace Go.Proofs.YtgaebaokcjhcdaaGreatDoor
open Go

theorem bodiesSingle_card : Rows.BodiesSingleCardSaid :=
  Claim7.holds_tied_plain_at .later [] [.listed, .data, .data, .mapped, .widerDeep] true (true, "dac595ffb042e58143650618237b8fcac8c12149f86d5299d22ce237a7d838c5") false
    bodiesSingle_holds (fun _ h => by cases h) (by kernel_rfl) (fun _ h => by cases h) bodiesSingle_row_tie rfl ⟨rfl, rfl⟩ (by kernel_rfl) rfl
    (fun f fn hf hfn => by
      obtain rfl : f = 6 := Option.some.inj ((show Tryz.prog.funcNamed "lazaret/lazaretlaw20.BodiesSingle" = some 6 by kernel_rfl).symm.trans hf) |>.symm
      obtain rfl : fn = Tryz.f6 := (Option.some.inj (Tryz.func6.symm.trans hfn)).symm
      exact ⟨by kernel_rfl, fun j t ht => by
        rw [Tryz.params6] at ht
        have hm : t ∈ [5, 39] := by simpa using Array.mem_of_getElem? ht
        have hall : ([5, 39].all fun u => !Tryz.prog.wantsStandIn u) = true := by kernel_rfl
        exact (show Tryz.prog.wantsStandIn t = false by simpa using List.all_eq_true.1 hall t hm)⟩)
    (by kernel_rfl)
#print axioms bodiesSingle_card
end Go.Proofs.YtgaebaokcjhcdaaGreatDoor
