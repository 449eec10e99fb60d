/- The closed facts of the row, one by one. -/
import Derived.Test.YtlklnffmhclioaaGreatDoorRows
import Derived.JoinedOf
import Derived.KernelRfl
namespace Go.Proofs.YtlklnffmhclioaaGreatDoor
open Go
theorem and2 {a b : Bool} (h : a = true) (k : b = true) : (a && b) = true := by rw [h, k]; rfl
set_option maxHeartbeats 1000000000 in
set_option maxRecDepth 100000 in
theorem closedFacts : joinedFacts Tryz.prog 3 Tryz.f3 Rows.ledgerZeroSpec Rows.ledgerZeroRow = true := by
  unfold joinedFacts
  with_reducible
    repeat refine and2 ?_ (by as_aux_lemma => kernel_rfl)
  as_aux_lemma => kernel_rfl
end Go.Proofs.YtlklnffmhclioaaGreatDoor

