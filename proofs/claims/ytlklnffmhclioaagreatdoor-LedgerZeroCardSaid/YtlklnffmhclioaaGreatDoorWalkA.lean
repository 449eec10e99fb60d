/- The walks of account and Right. -/
import Derived.Test.YtlklnffmhclioaaGreatDoorChecked
import Derived.WalkKit
import Derived.WalkSpells
import Derived.Handy
import Derived.Maps.OwnOps
import Derived.Maps.OwnSet
import Derived.Maps.Views
namespace Go.Proofs.YtlklnffmhclioaaGreatDoor
open Go.RowKit
def acct (n : Int) : Bool := decide (0 ≤ n ∧ n ≤ 4) || decide (100 ≤ n ∧ n < 164)
theorem acct_a {n : Int} (h3 : 100 ≤ n) : (decide (n ≤ 4) || decide (n < 164)) = acct n := by
  have e1 : decide (n ≤ 4) = false := decide_eq_false (by omega)
  have e2 : decide (0 ≤ n ∧ n ≤ 4) = false := decide_eq_false (by omega)
  have e3 : decide (100 ≤ n ∧ n < 164) = decide (n < 164) := by simp [h3]
  unfold acct; rw [e1, e2, e3]
set_option maxRecDepth 100000 in
theorem account_any (n : Int) (w : World) : Calls Tryz.prog 12 #[.int .i64 n] w fun e w' => e = .returned (.bool (acct n)) ∧ w' = w := by
  go_enter Tryz.func12, Tryz.ntmps12
  go_wp2
  all_goals go_ret
  · exact ⟨congrArg (fun b => Ending.returned (Value.bool b)) (acct_a (n := n) (by omega)), rfl⟩
  · refine ⟨congrArg (fun b => Ending.returned (Value.bool b)) (show decide (n ≤ 4) = acct n from ?_), rfl⟩
    unfold acct
    rw [decide_eq_false (show ¬ (0 ≤ n ∧ n ≤ 4) by omega), decide_eq_false (show ¬ (100 ≤ n ∧ n < 164) by omega), decide_eq_false (show ¬ n ≤ 4 by omega)]; rfl
  · refine ⟨congrArg (fun b => Ending.returned (Value.bool b)) (show true = acct n from ?_), rfl⟩
    unfold acct
    rw [decide_eq_true (show (0 ≤ n ∧ n ≤ 4) by omega)]; rfl
  · refine ⟨congrArg (fun b => Ending.returned (Value.bool b)) (show false = acct n from ?_), rfl⟩
    unfold acct
    rw [decide_eq_false (show ¬ (0 ≤ n ∧ n ≤ 4) by omega), decide_eq_false (show ¬ (100 ≤ n ∧ n < 164) by omega)]; rfl
set_option maxRecDepth 100000 in
theorem refAccount_any (n : Int) (w : World) : Calls Tryz.prog 11 #[.int .i64 n] w fun e w' => e = .returned (.bool (acct n)) ∧ w' = w := by
  go_enter Tryz.func11, Tryz.ntmps11
  go_wp2
  all_goals go_ret
  · exact ⟨congrArg (fun b => Ending.returned (Value.bool b)) (acct_a (n := n) (by omega)), rfl⟩
  · refine ⟨congrArg (fun b => Ending.returned (Value.bool b)) (show decide (n ≤ 4) = acct n from ?_), rfl⟩
    unfold acct
    rw [decide_eq_false (show ¬ (0 ≤ n ∧ n ≤ 4) by omega), decide_eq_false (show ¬ (100 ≤ n ∧ n < 164) by omega), decide_eq_false (show ¬ n ≤ 4 by omega)]; rfl
  · refine ⟨congrArg (fun b => Ending.returned (Value.bool b)) (show true = acct n from ?_), rfl⟩
    unfold acct
    rw [decide_eq_true (show (0 ≤ n ∧ n ≤ 4) by omega)]; rfl
  · refine ⟨congrArg (fun b => Ending.returned (Value.bool b)) (show false = acct n from ?_), rfl⟩
    unfold acct
    rw [decide_eq_false (show ¬ (0 ≤ n ∧ n ≤ 4) by omega), decide_eq_false (show ¬ (100 ≤ n ∧ n < 164) by omega)]; rfl
/-- an entry that is right at its place -/
def okE (E : Nat → Nat → Int) (j : Nat) : Prop := E j 0 = j ∧ E j 1 ≠ E j 2 ∧ acct (E j 1) = true ∧ acct (E j 2) = true ∧ 1 ≤ E j 3 ∧ E j 3 ≤ 1099511627776 ∧ 1 ≤ E j 4 ∧ E j 4 ≤ 3
instance (E : Nat → Nat → Int) (j : Nat) : Decidable (okE E j) := by unfold okE; infer_instance
def rightE (E : Nat → Nat → Int) (k : Nat) : Prop := ∀ j, j < k → okE E j
instance (E : Nat → Nat → Int) (k : Nat) : Decidable (rightE E k) := by unfold rightE; infer_instance

theorem rightE_succ {E : Nat → Nat → Int} {k : Nat} (h : rightE E k) (h2 : okE E k) : rightE E (k + 1) := by
  intro j hj
  by_cases hjk : j = k
  · subst hjk; exact h2
  · exact h j (by omega)

set_option maxHeartbeats 1000000 in
set_option maxRecDepth 100000 in
theorem right_any (b off len cap : Nat) (E : Nat → Nat → Int) (w : World) (hb : b < w.heap.size) (hlen : len ≤ 5000)
    (hc : ∀ j k, j < len → k < 5 → w.cell? ⟨b, off + (j * 5 + k), none⟩ = some (.int .i64 (E j k))) :
    Calls Tryz.prog 5 #[.slice (some ⟨b, off, none⟩) len cap] w fun e w' => e = .returned (.bool (decide (rightE E len))) ∧ Below w.heap.size w w' := by
  go_enter Tryz.func5, Tryz.ntmps5
  go_wp2
  go_loopw [3] (fun i wr => ∃ k : Nat, k ≤ len ∧ i = .int .i64 k ∧ rightE E k ∧ Below w.heap.size w wr) (fun i _ => len - (intOf i).toNat)
  case atStart => exact ⟨0, Nat.zero_le _, rfl, fun j hj => absurd hj (by omega), Below.refl _ _⟩
  case round =>
    obtain ⟨k, hk, rfl, hr, hbl⟩ := hrel
    have g0 : k < len → wr.cell? ⟨b, off + k * 5, none⟩ = some (.int .i64 (E k 0)) := fun h1 => (hbl.cell hb).trans (hc k 0 h1 (by omega))
    have g1 : k < len → wr.cell? ⟨b, off + k * 5 + 1, none⟩ = some (.int .i64 (E k 1)) := fun h1 => (hbl.cell hb).trans (hc k 1 h1 (by omega))
    have g2 : k < len → wr.cell? ⟨b, off + k * 5 + 2, none⟩ = some (.int .i64 (E k 2)) := fun h1 => (hbl.cell hb).trans (hc k 2 h1 (by omega))
    have g3 : k < len → wr.cell? ⟨b, off + k * 5 + 3, none⟩ = some (.int .i64 (E k 3)) := fun h1 => (hbl.cell hb).trans (hc k 3 h1 (by omega))
    have g4 : k < len → wr.cell? ⟨b, off + k * 5 + 4, none⟩ = some (.int .i64 (E k 4)) := fun h1 => (hbl.cell hb).trans (hc k 4 h1 (by omega))
    go_wp2_with (first | (go_at_call 11; refine (refAccount_any _ _).mono ?_; rintro e w' ⟨rfl, rfl⟩) | go_in)
    all_goals first
      | (go_ret
         show Ending.returned (Value.bool false) = _ ∧ _
         refine ⟨congrArg (fun b => Ending.returned (Value.bool b)) (decide_eq_false fun hR => ?_).symm, hbl.alloc hbl.size _⟩
         obtain ⟨o1, o2, o3, o4, o5, o6, o7, o8⟩ := hR k (by assumption)
         first
           | omega
           | (simp_all; done)
           | (rename_i hx; rcases hx with (((hx | hx) | hx) | hx) | hx <;> first | omega | exact o2 (by simpa using hx)))
      | (go_ret
         show Ending.returned (Value.bool true) = _ ∧ _
         have hk2 : k = len := by omega
         subst hk2
         exact ⟨congrArg (fun b => Ending.returned (Value.bool b)) (decide_eq_true hr).symm, hbl⟩)
      | (refine ⟨⟨k + 1, by omega, by go_num, rightE_succ hr ⟨by assumption, by assumption, by assumption, by assumption, by assumption, by assumption, by assumption, by omega⟩, hbl.alloc hbl.size _⟩, by simp [intOf]; omega⟩)

def bal (E : Nat → Nat → Int) (a : Int) : Nat → Int
  | 0 => 0
  | k + 1 => bal E a k + (if E k 2 = a then E k 3 else 0) - (if E k 1 = a then E k 3 else 0)

theorem bal_bound {E : Nat → Nat → Int} (a : Int) : ∀ {k : Nat}, rightE E k → -(k * 1099511627776 : Int) ≤ bal E a k ∧ bal E a k ≤ (k * 1099511627776 : Int)
  | 0, _ => by simp [bal]
  | k + 1, h => by
    obtain ⟨h1, h2⟩ := bal_bound a (k := k) (fun j hj => h j (by omega))
    obtain ⟨o1, o2, o3, o4, o5, o6, o7, o8⟩ := h k (by omega)
    simp only [bal]
    have e : ((k + 1 : Nat) : Int) * 1099511627776 = (k : Int) * 1099511627776 + 1099511627776 := by push_cast; omega
    rw [e]
    constructor <;> split <;> split <;> omega

theorem w64 {x : Int} (h1 : -9223372036854775808 ≤ x) (h2 : x ≤ 9223372036854775807) : wrap64 x = x := by
  unfold wrap64
  omega

/-- what Balance hands back, where there are not too many -/
def balR (E : Nat → Nat → Int) (len : Nat) (acc : Int) : Value :=
  if rightE E len ∧ acct acc = true then .tuple #[.int .i64 (bal E acc len), .int .i64 0] else .tuple #[.int .i64 0, .int .i64 580]
theorem balR_no {E : Nat → Nat → Int} {len : Nat} {acc : Int} (h : ¬ (rightE E len ∧ acct acc = true)) : balR E len acc = .tuple #[.int .i64 0, .int .i64 580] := if_neg h
theorem balR_yes {E : Nat → Nat → Int} {len : Nat} {acc : Int} (h : rightE E len ∧ acct acc = true) : balR E len acc = .tuple #[.int .i64 (bal E acc len), .int .i64 0] := if_pos h

theorem right_yes {b off len cap : Nat} {E : Nat → Nat → Int} {w : World} (hb : b < w.heap.size) (hlen : len ≤ 5000)
    (hc : ∀ j k, j < len → k < 5 → w.cell? ⟨b, off + (j * 5 + k), none⟩ = some (.int .i64 (E j k))) (hR : rightE E len) :
    Calls Tryz.prog 5 #[.slice (some ⟨b, off, none⟩) len cap] w fun e w' => e = .returned (.bool true) ∧ Below w.heap.size w w' :=
  (right_any b off len cap E w hb hlen hc).mono fun e w' ⟨h1, h2⟩ => ⟨by rw [h1, decide_eq_true hR], h2⟩
theorem right_no {b off len cap : Nat} {E : Nat → Nat → Int} {w : World} (hb : b < w.heap.size) (hlen : len ≤ 5000)
    (hc : ∀ j k, j < len → k < 5 → w.cell? ⟨b, off + (j * 5 + k), none⟩ = some (.int .i64 (E j k))) (hR : ¬ rightE E len) :
    Calls Tryz.prog 5 #[.slice (some ⟨b, off, none⟩) len cap] w fun e w' => e = .returned (.bool false) ∧ Below w.heap.size w w' :=
  (right_any b off len cap E w hb hlen hc).mono fun e w' ⟨h1, h2⟩ => ⟨by rw [h1, decide_eq_false hR], h2⟩
theorem refAccount_is {n : Int} {b : Bool} (h : acct n = b) (w : World) : Calls Tryz.prog 11 #[.int .i64 n] w fun e w' => e = .returned (.bool b) ∧ w' = w :=
  (refAccount_any n w).mono fun e w' ⟨h1, h2⟩ => ⟨by rw [h1, h], h2⟩
theorem account_is {n : Int} {b : Bool} (h : acct n = b) (w : World) : Calls Tryz.prog 12 #[.int .i64 n] w fun e w' => e = .returned (.bool b) ∧ w' = w :=
  (account_any n w).mono fun e w' ⟨h1, h2⟩ => ⟨by rw [h1, h], h2⟩

theorem right_none (a : Option Addr) (cap : Nat) (w : World) : Calls Tryz.prog 5 #[.slice a 0 cap] w fun e w' => e = .returned (.bool true) ∧ w' = w := by
  go_enter Tryz.func5, Tryz.ntmps5
  go_wp2
  refine wp_loop_rounds 1 ?_
  rw [rounds_succ]
  go_wp2
  go_ret
  exact ⟨rfl, rfl⟩

theorem bal_much (a : Option Addr) (len cap : Nat) (acc : Int) (w : World) (hl : 4096 < len) :
    Calls Tryz.prog 7 #[.slice a len cap, .int .i64 acc] w fun e w' => e = .returned (.tuple #[.int .i64 0, .int .i64 2]) ∧ w' = w := by
  go_enter Tryz.func7, Tryz.ntmps7
  go_wp2
  go_ret2
  exact ⟨rfl, rfl⟩
end Go.Proofs.YtlklnffmhclioaaGreatDoor

