/- A piece of the run of sane, played by the kernel. -/
import Derived.Test.YtobipaepkcbblaaGreatDoorSt
import Derived.KernelRfl
namespace Go.Proofs.YtobipaepkcbblaaGreatDoor.Ev
theorem pc2 : keepR kp3 (goR E5 25000 st2) = st3 := by kernel_rfl
end Go.Proofs.YtobipaepkcbblaaGreatDoor.Ev

