/- A piece of the run of sane, played by the kernel. -/
import Derived.Test.YtlklnffmhclioaaGreatDoorSt
import Derived.KernelRfl
namespace Go.Proofs.YtlklnffmhclioaaGreatDoor.Ev
theorem pc5 : endsB E5 (factQ (P.slot 4) (.bool true)) 20844 st5 = true := by kernel_rfl
end Go.Proofs.YtlklnffmhclioaaGreatDoor.Ev

