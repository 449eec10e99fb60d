/- A piece of the run of sane, played by the kernel. -/
import Derived.Test.YtlklnffmhclioaaGreatDoorSt
import Derived.KernelRfl
namespace Go.Proofs.YtlklnffmhclioaaGreatDoor.Ev
theorem pc3 : keepR kp4 (goR E5 25000 st3) = st4 := by kernel_rfl
end Go.Proofs.YtlklnffmhclioaaGreatDoor.Ev

