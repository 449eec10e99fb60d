/- Calls at data, played by the kernel: first part. -/
import Derived.Test.YtlklnffmhclioaaGreatDoorData
import Derived.KernelRfl
namespace Go.Proofs.YtlklnffmhclioaaGreatDoor.Ev
theorem fk0 : endsB E0 (factQ (P.slot 103) fc0.ans) 4751 (enterA E0 false (P.slot 103) fc0.args [] (fc0.heap 7)) = true := by kernel_rfl
theorem fa0 : relV (fun _ => none) fc0.ans fc0.ans = true := by kernel_rfl
theorem fk3 : endsB E2 (factQ (P.slot 40) fc3.ans) 242 (enterA E2 false (P.slot 40) fc3.args [] (fc3.heap 7)) = true := by kernel_rfl
theorem fa3 : relV (fun _ => none) fc3.ans fc3.ans = true := by kernel_rfl
theorem fk6 : endsB E2 (factQ (P.slot 241) fc6.ans) 359 (enterA E2 false (P.slot 241) fc6.args [] (fc6.heap 7)) = true := by kernel_rfl
theorem fa6 : relV (fun _ => none) fc6.ans fc6.ans = true := by kernel_rfl
theorem fk9 : endsB E3 (factQ (P.slot 72) fc9.ans) 1132 (enterA E3 false (P.slot 72) fc9.args [] (fc9.heap 7)) = true := by kernel_rfl
theorem fa9 : relV (fun _ => none) fc9.ans fc9.ans = true := by kernel_rfl
theorem fk12 : endsB E2 (factQ (P.slot 40) fc12.ans) 144 (enterA E2 false (P.slot 40) fc12.args [] (fc12.heap 7)) = true := by kernel_rfl
theorem fa12 : relV (fun _ => none) fc12.ans fc12.ans = true := by kernel_rfl
theorem fk15 : endsB E2 (factQ (P.slot 40) fc15.ans) 242 (enterA E2 false (P.slot 40) fc15.args [] (fc15.heap 7)) = true := by kernel_rfl
theorem fa15 : relV (fun _ => none) fc15.ans fc15.ans = true := by kernel_rfl
theorem fk18 : endsB E3 (factQ (P.slot 72) fc18.ans) 1168 (enterA E3 false (P.slot 72) fc18.args [] (fc18.heap 7)) = true := by kernel_rfl
theorem fa18 : relV (fun _ => none) fc18.ans fc18.ans = true := by kernel_rfl
theorem fk21 : endsB E3 (factQ (P.slot 72) fc21.ans) 1132 (enterA E3 false (P.slot 72) fc21.args [] (fc21.heap 7)) = true := by kernel_rfl
theorem fa21 : relV (fun _ => none) fc21.ans fc21.ans = true := by kernel_rfl
theorem fk24 : endsB E3 (factQ (P.slot 18) fc24.ans) 890 (enterA E3 false (P.slot 18) fc24.args [] (fc24.heap 7)) = true := by kernel_rfl
theorem fa24 : relV (fun _ => none) fc24.ans fc24.ans = true := by kernel_rfl
theorem fk27 : endsB E2 (factQ (P.slot 181) fc27.ans) 153 (enterA E2 false (P.slot 181) fc27.args [] (fc27.heap 7)) = true := by kernel_rfl
theorem fa27 : relV (fun _ => none) fc27.ans fc27.ans = true := by kernel_rfl
theorem fk30 : endsB E3 (factQ (P.slot 72) fc30.ans) 1168 (enterA E3 false (P.slot 72) fc30.args [] (fc30.heap 7)) = true := by kernel_rfl
theorem fa30 : relV (fun _ => none) fc30.ans fc30.ans = true := by kernel_rfl
theorem fk33 : endsB E3 (factQ (P.slot 180) fc33.ans) 2426 (enterA E3 false (P.slot 180) fc33.args [] (fc33.heap 7)) = true := by kernel_rfl
theorem fa33 : relV (fun _ => none) fc33.ans fc33.ans = true := by kernel_rfl
end Go.Proofs.YtlklnffmhclioaaGreatDoor.Ev

