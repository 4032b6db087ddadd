/-
  The loop of the slices: its last rounds.
-/
import Derived.Test.YtnnilbambpfhiaaGreatDoorEv30
namespace Go.Proofs.YtnnilbambpfhiaaGreatDoor.Ev
open Go
set_option maxRecDepth 100000

theorem last_A0_0 : lastIs (XR (bE 0)) (callR (bE 0)) 116 body18 A0 FE 2 19 (.l 6 [(2, 1)]) 4000 = true := by kernel_rfl
theorem last_A0_1 : lastIs (XR (bE 1)) (callR (bE 1)) 116 body18 A0 FE 2 19 (.l 15 [(2, 1)]) 4000 = true := by kernel_rfl
theorem last_A0_2 : lastIs (XR (bE 2)) (callR (bE 2)) 116 body18 A0 FE 2 19 (.l 24 [(2, 1)]) 4000 = true := by kernel_rfl
theorem last_A0_3 : lastIs (XR (bE 3)) (callR (bE 3)) 116 body18 A0 FE 2 19 (.l 33 [(2, 1)]) 4000 = true := by kernel_rfl
theorem last_A0_4 : lastIs (XR (bE 4)) (callR (bE 4)) 116 body18 A0 FE 2 19 (.l 42 [(2, 1)]) 4000 = true := by kernel_rfl
theorem last_A0_5 : lastIs (XR (bE 5)) (callR (bE 5)) 116 body18 A0 FE 2 19 (.l 51 [(2, 1)]) 4000 = true := by kernel_rfl
theorem last_A0_6 : lastIs (XR (bE 6)) (callR (bE 6)) 116 body18 A0 FE 2 19 (.l 60 [(2, 1)]) 4000 = true := by kernel_rfl
end Go.Proofs.YtnnilbambpfhiaaGreatDoor.Ev
