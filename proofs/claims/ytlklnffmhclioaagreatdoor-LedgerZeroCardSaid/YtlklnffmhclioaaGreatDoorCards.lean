/-
  DERIVED. GIVEN WITH THE SEED: THE CARDS: each row of YtlklnffmhclioaaGreatDoorRows.lean that lists a variable, with what it lists TIED to the program's text (the seventh form; the later family's looks); each row that meets fmt, with fmt's text TOLD by the authors' own Lean function (tested against real Go, not proved from fmt's source: count such statements apart). THE CARD IS WHAT COUNTS. Prove the row's statement (the work); the ties are given (YtlklnffmhclioaaGreatDoorTie.lean); close each card by the builder's one call (the guide's Derived/Test/ToyasCard.lean, 'card_holds'). Laid BY PROGRAM, IN A SANDBOX (cutbox-door.mjs). By AI agents, Wed Nov 11 2026. No macro, syntax, notation, axiom, sorry.
-/
import Derived.Test.YtlklnffmhclioaaGreatDoorRows
import GoSem.ClaimSeven
namespace Go.Proofs.YtlklnffmhclioaaGreatDoor
namespace Rows

/-- THE TIED CARD OF 'fastilaw58.LedgerZero'. -/
def ledgerZeroCard : Claim7 := { stood := { row := ledgerZeroRow, standIns := [], harness := (true, "9ea276ea121fb919c31c6a525a336c3c190c98b40aaab5bbec0761e0a7e4b964"), looks := true }, kinds := [], alts := [], laidByText := true, laidKinds := [.data, .data, .data, .widerDeep, .data, .data], laidTests := true, laidLooks := .later }
def LedgerZeroCardSaid : Prop := Claim7.holds Tryz.pinned (.plain (OpenSpec.ofChange ledgerZeroSpec)) ledgerZeroCard

/-- THE SECOND FORM's CARD OF 'fastilaw58.LedgerZero'. -/
def ledgerZeroUptoCard : Claim7 := { stood := { row := ledgerZeroUptoRow, standIns := [], harness := (true, "9ea276ea121fb919c31c6a525a336c3c190c98b40aaab5bbec0761e0a7e4b964"), looks := true }, kinds := [], alts := [], laidByText := true, laidKinds := [.data, .data, .data, .widerDeep, .data, .data], laidTests := true, laidLooks := .later }
def LedgerZeroUptoCardSaid : Prop := Claim7.holds Tryz.pinned (.plain (OpenSpec.upto ledgerZeroSpec)) ledgerZeroUptoCard
end Rows
end Go.Proofs.YtlklnffmhclioaaGreatDoor
