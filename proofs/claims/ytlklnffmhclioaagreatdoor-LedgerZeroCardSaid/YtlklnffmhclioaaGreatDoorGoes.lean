/- No function of the program starts a goroutine. -/
import Derived.Test.YtlklnffmhclioaaGreatDoorRows
import GoSem.ClaimGoes
import Derived.KernelRfl
namespace Go.Proofs.YtlklnffmhclioaaGreatDoor
open Go
theorem gc0 : ((Tryz.prog.funcs.toList.drop 0).take 60).any Func.goes = false := by kernel_rfl
theorem gc1 : ((Tryz.prog.funcs.toList.drop 60).take 60).any Func.goes = false := by kernel_rfl
theorem gc2 : ((Tryz.prog.funcs.toList.drop 120).take 60).any Func.goes = false := by kernel_rfl
theorem gc3 : ((Tryz.prog.funcs.toList.drop 180).take 60).any Func.goes = false := by kernel_rfl
theorem gc4 : ((Tryz.prog.funcs.toList.drop 240).take 60).any Func.goes = false := by kernel_rfl
theorem gc5 : ((Tryz.prog.funcs.toList.drop 300).take 60).any Func.goes = false := by kernel_rfl
theorem gc6 : ((Tryz.prog.funcs.toList.drop 360).take 60).any Func.goes = false := by kernel_rfl
theorem gc7 : ((Tryz.prog.funcs.toList.drop 420).take 60).any Func.goes = false := by kernel_rfl
theorem gc8 : ((Tryz.prog.funcs.toList.drop 480).take 60).any Func.goes = false := by kernel_rfl
theorem gc9 : (Tryz.prog.funcs.toList.drop 540).any Func.goes = false := by kernel_rfl

theorem any_step {α : Type} {p : α → Bool} {l : List α} {n k m : Nat} (hm : n + k = m) (h1 : ((l.drop n).take k).any p = false) (h2 : (l.drop m).any p = false) : (l.drop n).any p = false := by
  subst hm
  rw [← List.take_append_drop k (l.drop n), List.any_append, h1, List.drop_drop, h2]
  rfl

theorem goes_none : Tryz.prog.funcs.toList.any Func.goes = false := by
  have := any_step rfl gc0 (any_step rfl gc1 (any_step rfl gc2 (any_step rfl gc3 (any_step rfl gc4 (any_step rfl gc5 (any_step rfl gc6 (any_step rfl gc7 (any_step rfl gc8 gc9))))))))
  simpa using this

theorem goes_at (g : Nat) : (Tryz.prog.funcs[g]?).any Func.goes = false := by
  cases h : Tryz.prog.funcs[g]? with
  | none => rfl
  | some fn =>
    have hm : fn ∈ Tryz.prog.funcs.toList := by
      rw [Array.getElem?_eq_some_iff] at h
      obtain ⟨hlt, he⟩ := h
      rw [← he]
      exact Array.getElem_mem_toList hlt
    show Func.goes fn = false
    cases hg : Func.goes fn with
    | false => rfl
    | true =>
      have : Tryz.prog.funcs.toList.any Func.goes = true := List.any_eq_true.2 ⟨fn, hm, hg⟩
      rw [goes_none] at this
      cases this

theorem goes_gen {P : Program} (h1 : ∀ g : Nat, (P.funcs[g]?).any Func.goes = false) (h2 : P.funcs.toList.any Func.goes = false) (f : FuncId) : P.goes f = false := by
  unfold Program.goes
  have h3 : ((P.closure f).any fun g => (P.funcs[g]?).any Func.goes) = false := by
    rw [List.any_eq_false]
    intro g _
    rw [h1]
    simp
  have h4 : P.funcs.any Func.goes = false := by rw [← Array.any_toList]; exact h2
  rw [h3, h4]
  simp

theorem prog_goes (f : FuncId) : Tryz.prog.goes f = false := goes_gen goes_at goes_none f

theorem goes_of {P : Program} (hp : ∀ f, P.goes f = false) (start : Start) (func : String) (h : start = .entering) : false = P.goesAt start func := by
  subst h
  unfold Program.goesAt
  simp only [Bool.or_false]
  unfold Program.goesFrom
  cases P.funcNamed func with
  | none => rfl
  | some f => exact (hp f).symm

theorem row_goes : false = Rows.ledgerZeroRow.goesBy Tryz.prog := goes_of prog_goes _ _ rfl
end Go.Proofs.YtlklnffmhclioaaGreatDoor

