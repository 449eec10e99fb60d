/- A piece of the run of sane, played by the kernel. -/
import Derived.Test.YtlklnffmhclioaaGreatDoorSt
import Derived.KernelRfl
namespace Go.Proofs.YtlklnffmhclioaaGreatDoor.Ev
theorem pc4 : keepR kp5 (goR E5 25000 st4) = st5 := by kernel_rfl
end Go.Proofs.YtlklnffmhclioaaGreatDoor.Ev

