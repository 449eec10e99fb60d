/- A piece of the run of sane, played by the kernel. -/
import Derived.Test.YtobipaepkcbblaaGreatDoorSt
import Derived.KernelRfl
namespace Go.Proofs.YtobipaepkcbblaaGreatDoor.Ev
theorem pc0 : keepR kp1 (goR E5 25000 st0) = st1 := by kernel_rfl
end Go.Proofs.YtobipaepkcbblaaGreatDoor.Ev

