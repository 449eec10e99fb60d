/- A piece of the run of sane, played by the kernel. -/
import Derived.Test.YtobipaepkcbblaaGreatDoorSt
import Derived.KernelRfl
namespace Go.Proofs.YtobipaepkcbblaaGreatDoor.Ev
theorem pc1 : keepR kp2 (goR E5 25000 st1) = st2 := by kernel_rfl
end Go.Proofs.YtobipaepkcbblaaGreatDoor.Ev

