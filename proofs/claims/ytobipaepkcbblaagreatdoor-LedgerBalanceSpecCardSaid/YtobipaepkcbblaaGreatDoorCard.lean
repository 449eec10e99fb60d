/- LedgerBalanceSpecCardSaid: for every list of entries and every account the law LedgerBalanceSpec returns true and leaves its arguments as they were; condition: the listed package variables are as the program's text lays them (the card ties them). -/
import Derived.Test.YtobipaepkcbblaaGreatDoorRowB
import Derived.Test.YtobipaepkcbblaaGreatDoorGoes
import Derived.Test.YtobipaepkcbblaaGreatDoorCards
import Derived.Test.YtobipaepkcbblaaGreatDoorTie
import Derived.SevenTiedAt
namespace Go.Proofs.YtobipaepkcbblaaGreatDoor
open Go

set_option maxRecDepth 100000 in
theorem ledgerBalanceSpecCard_holds : Rows.LedgerBalanceSpecCardSaid :=
  Claim7.holds_tied_plain_at .later [] [.data, .data, .data, .widerDeep, .data, .data] true (true, "754399f4584b59398d26b9745cf254fdefd1fbc50034bf8a227d367438f90191") true
    ledgerBalanceSpec_holds (fun _ h => by cases h) (by kernel_rfl) (fun _ h => by cases h) ledgerBalanceSpec_row_tie rfl ⟨rfl, rfl⟩ (by kernel_rfl) rfl
    (fun f fn hf hfn => by
      obtain rfl : f = 3 := Option.some.inj ((show Tryz.prog.funcNamed "fasti/fastilaw58.LedgerBalanceSpec" = some 3 by kernel_rfl).symm.trans hf) |>.symm
      obtain rfl : fn = Tryz.f3 := (Option.some.inj (Tryz.func3.symm.trans hfn)).symm
      exact ⟨by kernel_rfl, fun j t ht => by
        rw [Tryz.params3] at ht
        have hm : t ∈ [22, 3] := by simpa using Array.mem_of_getElem? ht
        have hall : ([22, 3].all fun u => !Tryz.prog.wantsStandIn u) = true := by kernel_rfl
        exact (show Tryz.prog.wantsStandIn t = false by simpa using List.all_eq_true.1 hall t hm)⟩)
    row_goes
#print axioms ledgerBalanceSpecCard_holds
end Go.Proofs.YtobipaepkcbblaaGreatDoor

