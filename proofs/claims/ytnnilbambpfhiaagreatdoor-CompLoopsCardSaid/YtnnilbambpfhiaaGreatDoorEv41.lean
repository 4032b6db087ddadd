/-
  Proved: carousellaw26.CompLoops returns true at every int, and leaves its argument as it was (the tied card Rows.CompLoopsCardSaid).
  Conditions: the package-level variables strings.asciiSpace and unicode.White_Space hold what the program's text lays (the card ties that to the text).
  How: an evaluator of the model's code over an abstract heap (texts Ev0 to Ev3, Ev28), proved right (Ev4 to Ev20, Ev29); runs of it in the kernel (Ev22 to Ev27, Ev31 to Ev35, Ev37, Ev38); an induction on the count (Ev36).
-/
import Derived.Test.YtnnilbambpfhiaaGreatDoorEv40
import Derived.Test.YtnnilbambpfhiaaGreatDoorTie
import Derived.Test.YtnnilbambpfhiaaGreatDoorCards
import Derived.SevenTiedAt
namespace Go.Proofs.YtnnilbambpfhiaaGreatDoor
open Go

theorem card_holds : Rows.CompLoopsCardSaid :=
  Claim7.holds_tied_plain_at .later [] [.listed, .data] true (true, "0809dfce856354daed05db16aed574ddd715816b4b0dfefa3a6555e8406db1ac") false
    compLoops_holds (fun _ h => by cases h) (by kernel_rfl) (fun _ h => by cases h) compLoops_row_tie rfl ⟨rfl, rfl⟩ (by kernel_rfl) rfl
    (fun f fn hf hfn => by
      obtain rfl : f = 3 := Option.some.inj ((show Tryz.prog.funcNamed "carousel/carousellaw26.CompLoops" = some 3 by kernel_rfl).symm.trans hf) |>.symm
      obtain rfl : fn = Tryz.f3 := (Option.some.inj (Tryz.func3.symm.trans hfn)).symm
      exact ⟨by kernel_rfl, fun j t ht => by
        rw [Tryz.params3] at ht
        have hm : t ∈ [3] := by simpa using Array.mem_of_getElem? ht
        have hall : ([3].all fun u => !Tryz.prog.wantsStandIn u) = true := by kernel_rfl
        exact (show Tryz.prog.wantsStandIn t = false by simpa using List.all_eq_true.1 hall t hm)⟩)
    (by kernel_rfl)
#print axioms card_holds
end Go.Proofs.YtnnilbambpfhiaaGreatDoor
