/- LedgerZeroCardSaid: for every list of entries, all two numbers of accounts and every amount the law LedgerZero returns true and leaves its arguments as they were; condition: the listed package variables are as the program's text lays them (the card ties them). -/
import Derived.Test.YtlklnffmhclioaaGreatDoorRowB
import Derived.Test.YtlklnffmhclioaaGreatDoorGoes
import Derived.Test.YtlklnffmhclioaaGreatDoorCards
import Derived.Test.YtlklnffmhclioaaGreatDoorTie
import Derived.SevenTiedAt
namespace Go.Proofs.YtlklnffmhclioaaGreatDoor
open Go

set_option maxRecDepth 100000 in
theorem ledgerZeroCard_holds : Rows.LedgerZeroCardSaid :=
  Claim7.holds_tied_plain_at .later [] [.data, .data, .data, .widerDeep, .data, .data] true (true, "9ea276ea121fb919c31c6a525a336c3c190c98b40aaab5bbec0761e0a7e4b964") true
    ledgerZero_holds (fun _ h => by cases h) (by kernel_rfl) (fun _ h => by cases h) ledgerZero_row_tie rfl ⟨rfl, rfl⟩ (by kernel_rfl) rfl
    (fun f fn hf hfn => by
      obtain rfl : f = 3 := Option.some.inj ((show Tryz.prog.funcNamed "fasti/fastilaw58.LedgerZero" = some 3 by kernel_rfl).symm.trans hf) |>.symm
      obtain rfl : fn = Tryz.f3 := (Option.some.inj (Tryz.func3.symm.trans hfn)).symm
      exact ⟨by kernel_rfl, fun j t ht => by
        rw [Tryz.params3] at ht
        have hm : t ∈ [22, 5, 5, 23] := by simpa using Array.mem_of_getElem? ht
        have hall : ([22, 5, 5, 23].all fun u => !Tryz.prog.wantsStandIn u) = true := by kernel_rfl
        exact (show Tryz.prog.wantsStandIn t = false by simpa using List.all_eq_true.1 hall t hm)⟩)
    row_goes
#print axioms ledgerZeroCard_holds
end Go.Proofs.YtlklnffmhclioaaGreatDoor

