/- A piece of the run of sane, played by the kernel. -/
import Derived.Test.YtobipaepkcbblaaGreatDoorSt
import Derived.KernelRfl
namespace Go.Proofs.YtobipaepkcbblaaGreatDoor.Ev
theorem pc5 : endsB E5 (factQ (P.slot 4) (.bool true)) 20844 st5 = true := by kernel_rfl
end Go.Proofs.YtobipaepkcbblaaGreatDoor.Ev

