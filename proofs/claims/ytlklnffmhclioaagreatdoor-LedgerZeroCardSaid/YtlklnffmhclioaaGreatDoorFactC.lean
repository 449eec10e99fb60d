/- Calls at data, played by the kernel: third part. -/
import Derived.Test.YtlklnffmhclioaaGreatDoorData
import Derived.KernelRfl
namespace Go.Proofs.YtlklnffmhclioaaGreatDoor.Ev
theorem fk2 : endsB E2 (factQ (P.slot 39) fc2.ans) 1196 (enterA E2 false (P.slot 39) fc2.args [] (fc2.heap 7)) = true := by kernel_rfl
theorem fa2 : relV (fun _ => none) fc2.ans fc2.ans = true := by kernel_rfl
theorem fk5 : endsB E2 (factQ (P.slot 145) fc5.ans) 992 (enterA E2 false (P.slot 145) fc5.args [] (fc5.heap 7)) = true := by kernel_rfl
theorem fa5 : relV (fun _ => none) fc5.ans fc5.ans = true := by kernel_rfl
theorem fk8 : endsB E3 (factQ (P.slot 72) fc8.ans) 1168 (enterA E3 false (P.slot 72) fc8.args [] (fc8.heap 7)) = true := by kernel_rfl
theorem fa8 : relV (fun _ => none) fc8.ans fc8.ans = true := by kernel_rfl
theorem fk11 : endsB E2 (factQ (P.slot 40) fc11.ans) 144 (enterA E2 false (P.slot 40) fc11.args [] (fc11.heap 7)) = true := by kernel_rfl
theorem fa11 : relV (fun _ => none) fc11.ans fc11.ans = true := by kernel_rfl
theorem fk14 : endsB E2 (factQ (P.slot 40) fc14.ans) 144 (enterA E2 false (P.slot 40) fc14.args [] (fc14.heap 7)) = true := by kernel_rfl
theorem fa14 : relV (fun _ => none) fc14.ans fc14.ans = true := by kernel_rfl
theorem fk17 : endsB E3 (factQ (P.slot 72) fc17.ans) 1168 (enterA E3 false (P.slot 72) fc17.args [] (fc17.heap 7)) = true := by kernel_rfl
theorem fa17 : relV (fun _ => none) fc17.ans fc17.ans = true := by kernel_rfl
theorem fk20 : endsB E3 (factQ (P.slot 72) fc20.ans) 1132 (enterA E3 false (P.slot 72) fc20.args [] (fc20.heap 7)) = true := by kernel_rfl
theorem fa20 : relV (fun _ => none) fc20.ans fc20.ans = true := by kernel_rfl
theorem fk23 : endsB E2 (factQ (P.slot 40) fc23.ans) 46 (enterA E2 false (P.slot 40) fc23.args [] (fc23.heap 7)) = true := by kernel_rfl
theorem fa23 : relV (fun _ => none) fc23.ans fc23.ans = true := by kernel_rfl
theorem fk26 : endsB E3 (factQ (P.slot 72) fc26.ans) 1168 (enterA E3 false (P.slot 72) fc26.args [] (fc26.heap 7)) = true := by kernel_rfl
theorem fa26 : relV (fun _ => none) fc26.ans fc26.ans = true := by kernel_rfl
theorem fk29 : endsB E3 (factQ (P.slot 180) fc29.ans) 2426 (enterA E3 false (P.slot 180) fc29.args [] (fc29.heap 7)) = true := by kernel_rfl
theorem fa29 : relV (fun _ => none) fc29.ans fc29.ans = true := by kernel_rfl
theorem fk32 : endsB E2 (factQ (P.slot 181) fc32.ans) 157 (enterA E2 false (P.slot 181) fc32.args [] (fc32.heap 7)) = true := by kernel_rfl
theorem fa32 : relV (fun _ => none) fc32.ans fc32.ans = true := by kernel_rfl
end Go.Proofs.YtlklnffmhclioaaGreatDoor.Ev

