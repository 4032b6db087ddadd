/-
  The loop of the slices: its rounds.
-/
import Derived.Test.YtnnilbambpfhiaaGreatDoorEv30
namespace Go.Proofs.YtnnilbambpfhiaaGreatDoor.Ev
open Go
set_option maxRecDepth 100000

theorem round_A0i : roundIs (XR bR) (callR bR) 116 body18 A0i A3 endT id3 (thR (-6)) 4000 = true := by kernel_rfl
theorem round_A3 : roundIs (XR bR) (callR bR) 116 body18 A3 A6 endT id3 (thR (-6)) 4000 = true := by kernel_rfl
theorem round_A6 : roundIs (XR bR) (callR bR) 116 body18 A6 A0 endT id3 (thR (-7)) 4000 = true := by kernel_rfl
theorem round_A0 : roundIs (XR bR) (callR bR) 116 body18 A0 A3 endT id3 (thR (-6)) 4000 = true := by kernel_rfl
end Go.Proofs.YtnnilbambpfhiaaGreatDoor.Ev
