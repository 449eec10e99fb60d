/- A piece of the run of sane, played by the kernel. -/
import Derived.Test.YtobipaepkcbblaaGreatDoorSt
import Derived.KernelRfl
namespace Go.Proofs.YtobipaepkcbblaaGreatDoor.Ev
theorem pc4 : keepR kp5 (goR E5 25000 st4) = st5 := by kernel_rfl
end Go.Proofs.YtobipaepkcbblaaGreatDoor.Ev

