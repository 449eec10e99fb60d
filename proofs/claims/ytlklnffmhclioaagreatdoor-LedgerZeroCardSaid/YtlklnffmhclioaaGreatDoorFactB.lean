/- Calls at data, played by the kernel: second part. -/
import Derived.Test.YtlklnffmhclioaaGreatDoorData
import Derived.KernelRfl
namespace Go.Proofs.YtlklnffmhclioaaGreatDoor.Ev
theorem fk1 : endsB E1 (factQ (P.slot 44) fc1.ans) 1270 (enterA E1 false (P.slot 44) fc1.args [] (fc1.heap 7)) = true := by kernel_rfl
theorem fa1 : relV (fun _ => none) fc1.ans fc1.ans = true := by kernel_rfl
theorem fk4 : endsB E3 (factQ (P.slot 18) fc4.ans) 890 (enterA E3 false (P.slot 18) fc4.args [] (fc4.heap 7)) = true := by kernel_rfl
theorem fa4 : relV (fun _ => none) fc4.ans fc4.ans = true := by kernel_rfl
theorem fk7 : endsB E3 (factQ (P.slot 72) fc7.ans) 1168 (enterA E3 false (P.slot 72) fc7.args [] (fc7.heap 7)) = true := by kernel_rfl
theorem fa7 : relV (fun _ => none) fc7.ans fc7.ans = true := by kernel_rfl
theorem fk10 : endsB E3 (factQ (P.slot 72) fc10.ans) 1132 (enterA E3 false (P.slot 72) fc10.args [] (fc10.heap 7)) = true := by kernel_rfl
theorem fa10 : relV (fun _ => none) fc10.ans fc10.ans = true := by kernel_rfl
theorem fk13 : endsB E2 (factQ (P.slot 40) fc13.ans) 144 (enterA E2 false (P.slot 40) fc13.args [] (fc13.heap 7)) = true := by kernel_rfl
theorem fa13 : relV (fun _ => none) fc13.ans fc13.ans = true := by kernel_rfl
theorem fk16 : endsB E3 (factQ (P.slot 72) fc16.ans) 1168 (enterA E3 false (P.slot 72) fc16.args [] (fc16.heap 7)) = true := by kernel_rfl
theorem fa16 : relV (fun _ => none) fc16.ans fc16.ans = true := by kernel_rfl
theorem fk19 : endsB E3 (factQ (P.slot 72) fc19.ans) 1132 (enterA E3 false (P.slot 72) fc19.args [] (fc19.heap 7)) = true := by kernel_rfl
theorem fa19 : relV (fun _ => none) fc19.ans fc19.ans = true := by kernel_rfl
theorem fk22 : endsB E3 (factQ (P.slot 72) fc22.ans) 1132 (enterA E3 false (P.slot 72) fc22.args [] (fc22.heap 7)) = true := by kernel_rfl
theorem fa22 : relV (fun _ => none) fc22.ans fc22.ans = true := by kernel_rfl
theorem fk25 : endsB E4 (factQ (P.slot 21) fc25.ans) 324 (enterA E4 false (P.slot 21) fc25.args [] (fc25.heap 7)) = true := by kernel_rfl
theorem fa25 : relV (fun _ => none) fc25.ans fc25.ans = true := by kernel_rfl
theorem fk28 : endsB E2 (factQ (P.slot 181) fc28.ans) 397 (enterA E2 false (P.slot 181) fc28.args [] (fc28.heap 7)) = true := by kernel_rfl
theorem fa28 : relV (fun _ => none) fc28.ans fc28.ans = true := by kernel_rfl
theorem fk31 : endsB E2 (factQ (P.slot 181) fc31.ans) 401 (enterA E2 false (P.slot 181) fc31.args [] (fc31.heap 7)) = true := by kernel_rfl
theorem fa31 : relV (fun _ => none) fc31.ans fc31.ans = true := by kernel_rfl
end Go.Proofs.YtlklnffmhclioaaGreatDoor.Ev

