/-
  The loop of the slices: its last rounds.
-/
import Derived.Test.YtnnilbambpfhiaaGreatDoorEv30
namespace Go.Proofs.YtnnilbambpfhiaaGreatDoor.Ev
open Go
set_option maxRecDepth 100000

theorem last_A3_1 : lastIs (XR (bE 1)) (callR (bE 1)) 116 body18 A3 FE 2 19 (.l 12 [(2, 1)]) 4000 = true := by kernel_rfl
theorem last_A3_2 : lastIs (XR (bE 2)) (callR (bE 2)) 116 body18 A3 FE 2 19 (.l 21 [(2, 1)]) 4000 = true := by kernel_rfl
theorem last_A3_3 : lastIs (XR (bE 3)) (callR (bE 3)) 116 body18 A3 FE 2 19 (.l 30 [(2, 1)]) 4000 = true := by kernel_rfl
theorem last_A3_4 : lastIs (XR (bE 4)) (callR (bE 4)) 116 body18 A3 FE 2 19 (.l 39 [(2, 1)]) 4000 = true := by kernel_rfl
theorem last_A3_5 : lastIs (XR (bE 5)) (callR (bE 5)) 116 body18 A3 FE 2 19 (.l 48 [(2, 1)]) 4000 = true := by kernel_rfl
theorem last_A3_6 : lastIs (XR (bE 6)) (callR (bE 6)) 116 body18 A3 FE 2 19 (.l 57 [(2, 1)]) 4000 = true := by kernel_rfl
end Go.Proofs.YtnnilbambpfhiaaGreatDoor.Ev
