/- A piece of the run of sane, played by the kernel. -/
import Derived.Test.YtlklnffmhclioaaGreatDoorSt
import Derived.KernelRfl
namespace Go.Proofs.YtlklnffmhclioaaGreatDoor.Ev
theorem pc0 : keepR kp1 (goR E5 25000 st0) = st1 := by kernel_rfl
end Go.Proofs.YtlklnffmhclioaaGreatDoor.Ev

