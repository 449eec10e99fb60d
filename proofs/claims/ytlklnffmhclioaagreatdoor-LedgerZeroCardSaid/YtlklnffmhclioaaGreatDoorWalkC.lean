/- The plain law (the balances of all accounts have the sum 0); what both appends leave. -/
import Derived.Test.YtlklnffmhclioaaGreatDoorWalkB
import Derived.Deep.RegionHeld3
import Derived.Deep.AppendLies
import Derived.RegionTactic
import Derived.Deep.DrawnRows
import Derived.Deep.Cut
import Derived.KernelRfl
import Derived.OwnWalk
/-! The plain law: the balances of all accounts have the sum 0. -/
namespace Go.Proofs.YtlklnffmhclioaaGreatDoor

/-- the accounts, in order -/
def accAt (i : Nat) : Int := if i < 5 then (i : Int) else 95 + (i : Int)

theorem acct_accAt {i : Nat} (h : i < 69) : acct (accAt i) = true := by
  unfold acct accAt
  simp only [Bool.or_eq_true, decide_eq_true_eq]
  split <;> omega

theorem accAt_inj {i j : Nat} (h : accAt i = accAt j) : i = j := by
  unfold accAt at h
  split at h <;> split at h <;> omega

theorem acct_at {x : Int} (h : acct x = true) : ∃ j, j < 69 ∧ x = accAt j := by
  unfold acct at h
  simp only [Bool.or_eq_true, decide_eq_true_eq] at h
  rcases h with ⟨h1, h2⟩ | ⟨h1, h2⟩
  · refine ⟨x.toNat, by omega, ?_⟩
    unfold accAt
    rw [if_pos (by omega)]; omega
  · refine ⟨(x - 95).toNat, by omega, ?_⟩
    unfold accAt
    rw [if_neg (by omega)]; omega

/-- the balances of the first m accounts, added up -/
def sumTo (E : Nat → Nat → Int) (len : Nat) : Nat → Int
  | 0 => 0
  | m + 1 => sumTo E len m + bal E (accAt m) len

/-- an amount, counted at its account -/
def hitTo (x A : Int) : Nat → Int
  | 0 => 0
  | m + 1 => hitTo x A m + (if x = accAt m then A else 0)

theorem hitTo_at (j : Nat) (A : Int) : ∀ m : Nat, hitTo (accAt j) A m = if j < m then A else 0
  | 0 => by simp [hitTo]
  | m + 1 => by
    simp only [hitTo, hitTo_at j A m]
    by_cases h : accAt j = accAt m
    · have := accAt_inj h
      subst this
      simp
    · rw [if_neg h]
      have hne : j ≠ m := fun e => h (by rw [e])
      by_cases h1 : j < m
      · rw [if_pos h1, if_pos (by omega)]; omega
      · rw [if_neg h1, if_neg (by omega)]; omega

theorem sumTo_succ (E : Nat → Nat → Int) (k : Nat) : ∀ m : Nat, sumTo E (k + 1) m = sumTo E k m + hitTo (E k 2) (E k 3) m - hitTo (E k 1) (E k 3) m
  | 0 => by simp [sumTo, hitTo]
  | m + 1 => by
    simp only [sumTo, hitTo, bal, sumTo_succ E k m]
    omega

theorem sumTo_none (E : Nat → Nat → Int) : ∀ m : Nat, sumTo E 0 m = 0
  | 0 => rfl
  | m + 1 => by simp [sumTo, sumTo_none E m, bal]

theorem hitTo_all {x A : Int} (h : acct x = true) : hitTo x A 69 = A := by
  obtain ⟨j, hj, rfl⟩ := acct_at h
  rw [hitTo_at, if_pos hj]

/-- NOTHING IS LOST -/
theorem sum_zero {E : Nat → Nat → Int} : ∀ {len : Nat}, rightE E len → sumTo E len 69 = 0
  | 0, _ => sumTo_none E 69
  | k + 1, h => by
    have ih := sum_zero (len := k) fun j hj => h j (by omega)
    obtain ⟨o1, o2, o3, o4, o5, o6, o7, o8⟩ := h k (by omega)
    rw [sumTo_succ, ih, hitTo_all o3, hitTo_all o4]
    omega

theorem sumTo_bound {E : Nat → Nat → Int} {len : Nat} (h : rightE E len) (hl : len ≤ 300) : ∀ {m : Nat}, m ≤ 69 → -(m * 329853488332800 : Int) ≤ sumTo E len m ∧ sumTo E len m ≤ (m * 329853488332800 : Int)
  | 0, _ => by simp [sumTo]
  | m + 1, hm => by
    obtain ⟨h1, h2⟩ := sumTo_bound h hl (m := m) (by omega)
    obtain ⟨h3, h4⟩ := bal_bound (accAt m) h
    have hl2 : (len : Int) ≤ 300 := by omega
    have e : ((m + 1 : Nat) : Int) * 329853488332800 = (m : Int) * 329853488332800 + 329853488332800 := by push_cast; omega
    simp only [sumTo]
    rw [e]
    constructor <;> omega

/-- the entries, and one more -/
def moreE (E : Nat → Nat → Int) (len : Nat) (f t A : Int) (j k : Nat) : Int :=
  if j < len then E j k else match k with | 0 => (len : Int) | 1 => f | 2 => t | 3 => A | _ => 2

theorem moreE_old {E : Nat → Nat → Int} {len : Nat} {f t A : Int} {j k : Nat} (h : j < len) : moreE E len f t A j k = E j k := by
  unfold moreE; rw [if_pos h]
theorem moreE_new {E : Nat → Nat → Int} {len : Nat} {f t A : Int} (k : Nat) : moreE E len f t A len k = match k with | 0 => (len : Int) | 1 => f | 2 => t | 3 => A | _ => 2 := by
  unfold moreE; rw [if_neg (by omega)]

theorem moreE_right {E : Nat → Nat → Int} {len : Nat} {f t A : Int} (h : rightE E len) (hne : f ≠ t) (hf : acct f = true) (ht : acct t = true) (h1 : 1 ≤ A) (h2 : A ≤ 1099511627776) : rightE (moreE E len f t A) (len + 1) := by
  intro j hj
  by_cases hjl : j < len
  · have := h j hjl
    unfold okE at this ⊢
    simp only [moreE_old hjl]
    exact this
  · have : j = len := by omega
    subst this
    unfold okE
    simp only [moreE_new]
    exact ⟨trivial, hne, hf, ht, h1, h2, by omega, by omega⟩

theorem moreE_bal_old {E : Nat → Nat → Int} {len : Nat} {f t A : Int} (a : Int) : ∀ {k : Nat}, k ≤ len → bal (moreE E len f t A) a k = bal E a k
  | 0, _ => rfl
  | k + 1, h => by
    simp only [bal, moreE_bal_old a (show k ≤ len by omega), moreE_old (show k < len by omega)]

theorem moreE_bal {E : Nat → Nat → Int} {len : Nat} {f t A : Int} (a : Int) : bal (moreE E len f t A) a (len + 1) = bal E a len + (if t = a then A else 0) - (if f = a then A else 0) := by
  simp only [bal, moreE_bal_old a (Nat.le_refl len), moreE_new]
end Go.Proofs.YtlklnffmhclioaaGreatDoor

namespace Go.Proofs.YtlklnffmhclioaaGreatDoor
open Go.RowKit Go.Maps
attribute [local go_sem ↓] Go.wp_at_zero Go.wp_at_succ

theorem infoE : (Tryz.prog.info? 29).map (fun i => (i.zero, i.size, i.bytes)) = some (some (.agg #[.int .i64 0, .int .i64 0, .int .i64 0, .int .i64 0, .int .i64 0]), 5, 40) := by kernel_rfl

theorem own0 {w : World} {B H : Nat} (hB : B ≤ H) (h : w.heap[H]? = some (.cells #[] 29 (0, 0))) : w.ownsRow B 29 5 (.slice (some ⟨H, 0, none⟩) 0 0) 0 [] :=
  ⟨rfl, .inr ⟨H, 0, #[], rfl, hB, h, Nat.le_refl _, Nat.zero_le _, rfl, rfl⟩⟩

/-- the cells of the entries, one behind the other -/
def cellsL (E : Nat → Nat → Int) (len : Nat) : List Value := (List.range (len * 5)).map fun i => .int .i64 (E (i / 5) (i % 5))
theorem cellsL_length (E : Nat → Nat → Int) (len : Nat) : (cellsL E len).length = len * 5 := by simp [cellsL]
theorem cellsL_get {E : Nat → Nat → Int} {len j : Nat} (h : j < len * 5) : (cellsL E len)[j]? = some (.int .i64 (E (j / 5) (j % 5))) := by
  simp [cellsL, h]
theorem cellsL_one {E : Nat → Nat → Int} {len : Nat} : ∀ u ∈ cellsL E len, u.oneCell' = true := by
  intro u hu
  simp only [cellsL, List.mem_map] at hu
  obtain ⟨i, _, rfl⟩ := hu
  rfl
theorem cellsL_reads {E : Nat → Nat → Int} {b off len : Nat} {w : World} (hc : ∀ j k, j < len → k < 5 → w.cell? ⟨b, off + (j * 5 + k), none⟩ = some (.int .i64 (E j k))) :
    ∀ j u, (cellsL E len)[j]? = some u → w.cell? ((⟨b, off, none⟩ : Addr).add j) = some u := by
  intro j u hu
  have hj : j < len * 5 := by
    have := (List.getElem?_eq_some_iff.1 hu).1
    rwa [cellsL_length] at this
  rw [cellsL_get hj] at hu
  cases hu
  have e : (⟨b, off, none⟩ : Addr).add j = ⟨b, off + (j / 5 * 5 + j % 5), none⟩ := by
    have h5 : j / 5 * 5 + j % 5 = j := by omega
    rw [h5]
    unfold Addr.add
    split <;> simp_all
  rw [e]
  exact hc _ _ (by omega) (by omega)

/-- the five numbers of one entry -/
def entL (a b c d e : Int) : List Value := [.int .i64 a, .int .i64 b, .int .i64 c, .int .i64 d, .int .i64 e]

/-- what the slice behind both appends reads as -/
theorem more_reads {E : Nat → Nat → Int} {len g cap B : Nat} {f t A : Int} {w : World} (h : w.ownsRow B 29 5 (.slice (some ⟨g, 0, none⟩) (len + 1) cap) (len + 1) (cellsL E len ++ entL len f t A 2)) :
    ∀ j k, j < len + 1 → k < 5 → w.cell? ⟨g, 0 + (j * 5 + k), none⟩ = some (.int .i64 (moreE E len f t A j k)) := by
  intro j k hj hk
  have hcell := h.cells (g := g) rfl (j * 5 + k)
  have e : (⟨g, 0, none⟩ : Addr).add (j * 5 + k) = ⟨g, 0 + (j * 5 + k), none⟩ := by unfold Addr.add; split <;> simp_all
  rw [e] at hcell
  apply hcell
  by_cases hjl : j < len
  · rw [List.getElem?_append_left (by rw [cellsL_length]; omega), cellsL_get (by omega), moreE_old hjl]
    congr 3
    · omega
    · omega
  · have : j = len := by omega
    subst this
    rw [List.getElem?_append_right (by rw [cellsL_length]; omega), cellsL_length, moreE_new]
    rw [show j * 5 + k - j * 5 = k by omega]
    match k, hk with
    | 0, _ => rfl
    | 1, _ => rfl
    | 2, _ => rfl
    | 3, _ => rfl
    | 4, _ => rfl
end Go.Proofs.YtlklnffmhclioaaGreatDoor

namespace Go.Proofs.YtlklnffmhclioaaGreatDoor
open Go.RowKit Go.Maps

theorem Below.seq {w a b : World} (h : Below w.heap.size w a) (k : Below a.heap.size a b) : Below w.heap.size w b := h.trans (k.mono h.size)

/-- the first append, where nothing is appended -/
theorem run_append_zero (w : World) {i : TypeInfo} (hi : Tryz.prog.info? 29 = some i) (ty : TypeId) (H0 : Nat) (a : Option Addr) (c : Nat) :
    (Builtin.append_ #[22, 22] ty #[.slice (some ⟨H0, 0, none⟩) 0 0, .slice a 0 c]).run Tryz.prog w = .ok (.slice (some ⟨H0, 0, none⟩) 0 0) w := by
  cases a <;> simp [Builtin.append_, run_underlying Tryz.underlying22, sizeOf, typeInfo, hi, Builtin.lenOf, Builtin.firstCells, loadCells, loadCellsFrom, storeCells]

theorem step_a0 {ops : Array Oper} {o : Oper} {a : Act} {K : Act → World → Prop} {Q : Exit → Act → World → Prop} {EE : Prop} {W5 w : World} {ad : Option Addr} {c H0 : Nat} (s x : Tmp) (hgd : o.guard = none)
    (ho : o.op = .call { callee := .builtin .append, args := #[.tmp s, .tmp x], argTypes := #[22, 22] })
    (hs : a.eval (.tmp s) = .slice (some ⟨H0, 0, none⟩) 0 0) (hx : a.eval (.tmp x) = .slice ad 0 c)
    (hH : w.heap[H0]? = some (.cells #[] 29 (0, 0))) (hB : W5.heap.size ≤ H0)
    (h : w.ownsRow W5.heap.size 29 5 (.slice (some ⟨H0, 0, none⟩) 0 0) 0 [] → K (a.put o.dst (.slice (some ⟨H0, 0, none⟩) 0 0)) w) :
    if Region.wanted o (yielded ops a.tmps) = true then Oper.wp Tryz.prog o a w K Q else EE := by
  have hw : Region.wanted o (yielded ops a.tmps) = true := by simp [Region.wanted, hgd]
  rw [if_pos hw]
  obtain ⟨i0, hi, hz0, hz1, hz2⟩ := info_parts infoE
  have hr := run_append_zero w hi o.type H0 ad c
  unfold Oper.wp execOp
  simp only [ho, resolve, invoke, builtin, Sem.run_bind, Sem.run_pure, Result.andThen_ok, List.map_toArray, List.map_cons, List.map_nil, hs, hx, hr]
  exact h (own0 hB hH)

/-- the first append, where something is appended -/
theorem step_a1s {ops : Array Oper} {o : Oper} {a : Act} {K : Act → World → Prop} {Q : Exit → Act → World → Prop} {EE : Prop} {W5 w : World} {E : Nat → Nat → Int} {b off len c H0 : Nat} (s x : Tmp) (hgd : o.guard = none)
    (ho : o.op = .call { callee := .builtin .append, args := #[.tmp s, .tmp x], argTypes := #[22, 22] })
    (hs : a.eval (.tmp s) = .slice (some ⟨H0, 0, none⟩) 0 0) (hx : a.eval (.tmp x) = .slice (some ⟨b, off, none⟩) len c)
    (hH : w.heap[H0]? = some (.cells #[] 29 (0, 0))) (hB : W5.heap.size ≤ H0) (hb : Below W5.heap.size W5 w) (hbw : b < W5.heap.size)
    (hcr : ∀ j k, j < len → k < 5 → W5.cell? ⟨b, off + (j * 5 + k), none⟩ = some (.int .i64 (E j k))) (h0 : 0 < len) (hl : len ≤ 300)
    (h : ∀ g cap w', w'.ownsRow W5.heap.size 29 5 (.slice (some ⟨g, 0, none⟩) len cap) len (cellsL E len) → w.grownBy w' (some H0) → g < w'.heap.size → K (a.put o.dst (.slice (some ⟨g, 0, none⟩) len cap)) w') :
    if Region.wanted o (yielded ops a.tmps) = true then Oper.wp Tryz.prog o a w K Q else EE := by
  obtain ⟨i0, hi, hz0, hz1, hz2⟩ := info_parts infoE
  refine step_append_lies w hgd (.tmp s) (.tmp x) 22 ho W5.heap.size 29 i0 _ 5 40 Tryz.underlying22 hi hz0 hz1 hz2 rfl (by omega) (.slice (some ⟨H0, 0, none⟩) 0 0) 0 [] hs (own0 hB hH) ⟨b, off, none⟩ len c (cellsL E len) hx (cellsL_length E len) (cellsL_reads fun j k hj hk => (hb.cell hbw).trans (hcr j k hj hk)) cellsL_one h0 (by unfold maxLen; omega) (by omega) hb.size _ rfl ?_
  intro g cap w' h1 h2 _ h4
  have h1' := h1
  simp only [Nat.zero_add, List.nil_append] at h1' ⊢
  exact h g cap w' h1' h2 h4

/-- the first append: the entries, behind the empty literal -/
theorem step_a1 {ops : Array Oper} {o : Oper} {a : Act} {K : Act → World → Prop} {Q : Exit → Act → World → Prop} {EE : Prop} {W5 w : World} {E : Nat → Nat → Int} {ad : Option Addr} {len c H0 : Nat} (s x : Tmp) (hgd : o.guard = none)
    (ho : o.op = .call { callee := .builtin .append, args := #[.tmp s, .tmp x], argTypes := #[22, 22] })
    (hs : a.eval (.tmp s) = .slice (some ⟨H0, 0, none⟩) 0 0) (hx : a.eval (.tmp x) = .slice ad len c)
    (hH : w.heap[H0]? = some (.cells #[] 29 (0, 0))) (hB : W5.heap.size ≤ H0) (hb : Below W5.heap.size W5 w) (hr : Reads E (.slice ad len c) len W5) (hl : len ≤ 300)
    (h : ∀ g cap w', w'.ownsRow W5.heap.size 29 5 (.slice (some ⟨g, 0, none⟩) len cap) len (cellsL E len) → w.grownBy w' (some H0) → g < w'.heap.size → K (a.put o.dst (.slice (some ⟨g, 0, none⟩) len cap)) w') :
    if Region.wanted o (yielded ops a.tmps) = true then Oper.wp Tryz.prog o a w K Q else EE := by
  have hlt : H0 < w.heap.size := by
    rcases Nat.lt_or_ge H0 w.heap.size with h1 | h1
    · exact h1
    · rw [Array.getElem?_eq_none h1] at hH; cases hH
  have zero : len = 0 → if Region.wanted o (yielded ops a.tmps) = true then Oper.wp Tryz.prog o a w K Q else EE := by
    rintro rfl
    exact step_a0 (W5 := W5) s x hgd ho hs hx hH hB fun hown => h H0 0 w hown (World.grownBy.refl w _) hlt
  obtain ⟨capr, ⟨h0, _⟩ | ⟨b, off, hsl, hbw, hcr⟩⟩ := hr
  · exact zero h0
  · rcases Nat.eq_zero_or_pos len with h0 | h0
    · exact zero h0
    · cases hsl
      exact step_a1s s x hgd ho hs hx hH hB hb hbw hcr h0 hl h

/-- the second append: one entry more -/
theorem step_a2 {ops : Array Oper} {o : Oper} {a : Act} {K : Act → World → Prop} {Q : Exit → Act → World → Prop} {EE : Prop} {B : Nat} {w : World} {xs : List Value} {len g1 c1 H1 c : Nat} {v0 v1 v2 v3 v4 : Int} (s x : Tmp) (hgd : o.guard = none)
    (ho : o.op = .call { callee := .builtin .append, args := #[.tmp s, .tmp x], argTypes := #[22, 22] })
    (hs : a.eval (.tmp s) = .slice (some ⟨g1, 0, none⟩) len c1) (hx : a.eval (.tmp x) = .slice (some ⟨H1, 0, none⟩) 1 c)
    (hown : w.ownsRow B 29 5 (.slice (some ⟨g1, 0, none⟩) len c1) len xs)
    (hH : w.heap[H1]? = some (.cells #[.int .i64 v0, .int .i64 v1, .int .i64 v2, .int .i64 v3, .int .i64 v4] 29 (0, 0))) (hB : B ≤ w.heap.size) (hl : len ≤ 300)
    (h : ∀ g cap w', w'.ownsRow B 29 5 (.slice (some ⟨g, 0, none⟩) (len + 1) cap) (len + 1) (xs ++ entL v0 v1 v2 v3 v4) → w.grownBy w' (some g1) → g < w'.heap.size → K (a.put o.dst (.slice (some ⟨g, 0, none⟩) (len + 1) cap)) w') :
    if Region.wanted o (yielded ops a.tmps) = true then Oper.wp Tryz.prog o a w K Q else EE := by
  obtain ⟨i0, hi, hz0, hz1, hz2⟩ := info_parts infoE
  refine step_append_lies w hgd (.tmp s) (.tmp x) 22 ho B 29 i0 _ 5 40 Tryz.underlying22 hi hz0 hz1 hz2 rfl (by omega) (.slice (some ⟨g1, 0, none⟩) len c1) len xs hs hown ⟨H1, 0, none⟩ 1 c (entL v0 v1 v2 v3 v4) hx rfl (World.news_of_block hH) (by intro u hu; simp only [entL, List.mem_cons, List.not_mem_nil, or_false] at hu; rcases hu with rfl | rfl | rfl | rfl | rfl <;> rfl) (by omega) (by unfold maxLen; omega) (by omega) hB _ rfl ?_
  intro g cap w' h1 h2 _ h4
  exact h g cap w' h1 h2 h4

/-- Balance of entries that are right, of an account -/
theorem bal_right {E : Nat → Nat → Int} {s : Value} {len : Nat} {w : World} {acc : Int} (h : Reads E s len w) (hR : rightE E len) (hl : len ≤ 4096) (ha : acct acc = true) :
    Calls Tryz.prog 7 #[s, .int .i64 acc] w fun e w' => e = .returned (.tuple #[.int .i64 (bal E acc len), .int .i64 0]) ∧ Below w.heap.size w w' :=
  (bal_reads acc h).mono fun e w' ⟨h1, h2⟩ => ⟨by rw [h1]; unfold balV; rw [if_neg (by omega), balR_yes ⟨hR, ha⟩], h2⟩
end Go.Proofs.YtlklnffmhclioaaGreatDoor

