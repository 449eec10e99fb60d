/- A piece of the run of sane, played by the kernel. -/
import Derived.Test.YtlklnffmhclioaaGreatDoorSt
import Derived.KernelRfl
namespace Go.Proofs.YtlklnffmhclioaaGreatDoor.Ev
theorem pc2 : keepR kp3 (goR E5 25000 st2) = st3 := by kernel_rfl
end Go.Proofs.YtlklnffmhclioaaGreatDoor.Ev

