/-
  DERIVED. GIVEN WITH THE SEED: THE CARDS: each row of YtobipaepkcbblaaGreatDoorRows.lean that lists a variable, with what it lists TIED to the program's text (the seventh form; the later family's looks); each row that meets fmt, with fmt's text TOLD by the authors' own Lean function (tested against real Go, not proved from fmt's source: count such statements apart). THE CARD IS WHAT COUNTS. Prove the row's statement (the work); the ties are given (YtobipaepkcbblaaGreatDoorTie.lean); close each card by the builder's one call (the guide's Derived/Test/ToyasCard.lean, 'card_holds'). Laid BY PROGRAM, IN A SANDBOX (cutbox-door.mjs). By AI agents, Wed Nov 11 2026. No macro, syntax, notation, axiom, sorry.
-/
import Derived.Test.YtobipaepkcbblaaGreatDoorRows
import GoSem.ClaimSeven
namespace Go.Proofs.YtobipaepkcbblaaGreatDoor
namespace Rows

/-- THE TIED CARD OF 'fastilaw58.LedgerBalanceSpec'. -/
def ledgerBalanceSpecCard : Claim7 := { stood := { row := ledgerBalanceSpecRow, standIns := [], harness := (true, "754399f4584b59398d26b9745cf254fdefd1fbc50034bf8a227d367438f90191"), looks := true }, kinds := [], alts := [], laidByText := true, laidKinds := [.data, .data, .data, .widerDeep, .data, .data], laidTests := true, laidLooks := .later }
def LedgerBalanceSpecCardSaid : Prop := Claim7.holds Tryz.pinned (.plain (OpenSpec.ofChange ledgerBalanceSpecSpec)) ledgerBalanceSpecCard

/-- THE SECOND FORM's CARD OF 'fastilaw58.LedgerBalanceSpec'. -/
def ledgerBalanceSpecUptoCard : Claim7 := { stood := { row := ledgerBalanceSpecUptoRow, standIns := [], harness := (true, "754399f4584b59398d26b9745cf254fdefd1fbc50034bf8a227d367438f90191"), looks := true }, kinds := [], alts := [], laidByText := true, laidKinds := [.data, .data, .data, .widerDeep, .data, .data], laidTests := true, laidLooks := .later }
def LedgerBalanceSpecUptoCardSaid : Prop := Claim7.holds Tryz.pinned (.plain (OpenSpec.upto ledgerBalanceSpecSpec)) ledgerBalanceSpecUptoCard
end Rows
end Go.Proofs.YtobipaepkcbblaaGreatDoor
