/- A piece of the run of sane, played by the kernel. -/
import Derived.Test.YtlklnffmhclioaaGreatDoorSt
import Derived.KernelRfl
namespace Go.Proofs.YtlklnffmhclioaaGreatDoor.Ev
theorem pc1 : keepR kp2 (goR E5 25000 st1) = st2 := by kernel_rfl
end Go.Proofs.YtlklnffmhclioaaGreatDoor.Ev

