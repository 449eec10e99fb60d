/- The walk of accounts. -/
import Derived.Test.YtlklnffmhclioaaGreatDoorWalkC
import Derived.LoopTactic
namespace Go.Proofs.YtlklnffmhclioaaGreatDoor
open Go.RowKit Go.Maps

def accL (k : Nat) : List Value := (List.range k).map fun i => .int .i64 (accAt i)
theorem accL_succ (k : Nat) : accL (k + 1) = accL k ++ [.int .i64 (accAt k)] := by
  simp [accL, List.range_succ]
theorem accL_get {k i : Nat} (h : i < k) : (accL k)[i]? = some (.int .i64 (accAt i)) := by simp [accL, h]

theorem infoI : (Tryz.prog.info? 3).map (fun i => (i.zero, i.size, i.bytes)) = some (some (.int .i64 0), 1, 8) := by kernel_rfl

theorem own_ge {w : World} {B e size n : Nat} {v : Value} {xs : List Value} (h : w.ownsRow B e size v n xs) : ∀ j, v.ownBlock = some j → B ≤ j := by
  intro j hj
  rcases h.2 with ⟨rfl, _⟩ | ⟨g, cap, cur, rfl, hb, _⟩
  · cases hj
  · have : g = j := Option.some.inj hj
    omega

/-- one round's append -/
theorem acc_round {w wr w1 : World} {v v1 : Value} {k : Nat} {x : Value} (hown : wr.ownsRow w.heap.size 3 1 v k (accL k)) (hbl : Below w.heap.size w wr) (hx : x = .int .i64 (accAt k))
    (h1 : w1.ownsRow w.heap.size 3 1 v1 (k + 1) (accL k ++ [x])) (hg : (wr.alloc (.cells #[x] 3)).grownBy w1 v.ownBlock) :
    w1.ownsRow w.heap.size 3 1 v1 (k + 1) (accL (k + 1)) ∧ Below w.heap.size w w1 := by
  subst hx
  exact ⟨by rw [accL_succ]; exact h1, (hbl.alloc hbl.size _).grown hg (by simp; have := hbl.size; omega) (own_ge hown)⟩

set_option maxHeartbeats 4000000 in
set_option maxRecDepth 100000 in
theorem accounts_any (w : World) : Calls Tryz.prog 6 #[] w fun e w' => ∃ g o cap, e = .returned (.slice (some ⟨g, o, none⟩) 69 cap) ∧ Below w.heap.size w w' ∧ w.heap.size ≤ g ∧ g < w'.heap.size ∧
    ∀ i : Nat, i < 69 → w'.cell? ⟨g, o + i, none⟩ = some (.int .i64 (accAt i)) := by
  obtain ⟨i0, hi, hz0, hz1, hz2⟩ := info_parts infoI
  go_enter Tryz.func6, Tryz.ntmps6
  go_wp2
  go_loopw [0, 3] (fun v i wr => ∃ k : Nat, k ≤ 5 ∧ i = .int .i64 k ∧ wr.ownsRow w.heap.size 3 1 v k (accL k) ∧ Below w.heap.size w wr) (fun _ i _ => 5 - (intOf i).toNat)
  case atStart => exact ⟨0, by omega, rfl, World.ownsRow_nil w _ 3 1, Below.refl _ _⟩
  case round =>
    obtain ⟨k, hk, rfl, hown, hbl⟩ := hrel
    have hsz := hbl.size
    go_wp2_with (first
      | (at_builtin; refine wpList_append_own _ rfl _ _ 26 rfl w.heap.size 3 i0 (.int .i64 0) 1 8 Tryz.underlying26 hi hz0 hz1 hz2 rfl (by decide) _ _ _ rfl (hown.alloc _) ⟨wr.heap.size, 0, none⟩ 1 1 [.int .i64 k] rfl rfl (World.news_of_block (heap_alloc_new wr _)) (by intro u hu; simp only [List.mem_cons, List.not_mem_nil, or_false] at hu; subst hu; rfl) (by unfold maxLen; omega) (by omega) (by simp; omega) ?_; intro v1 w1 hown1 hgrow1 _)
      | go_in)
    · have hlt : k < 5 := by omega
      obtain ⟨q1, q2⟩ := acc_round hown hbl (by unfold accAt; rw [if_pos hlt]) hown1 hgrow1
      refine ⟨⟨k + 1, by omega, by go_num, q1, q2⟩, by simp [intOf]; omega⟩
    · have hk5 : k = 5 := by omega
      subst hk5
      obtain ⟨wo, hwo⟩ : ∃ wo : World, wo = wr := ⟨_, rfl⟩
      rw [← hwo] at hown hbl ⊢
      clear hwo
      simp only [Int.cast_ofNat_Int, Int.lt_irrefl, decide_false]
      go_loopw [0, 11] (fun v i wr => ∃ k : Nat, k ≤ 64 ∧ i = .int .i64 k ∧ wr.ownsRow w.heap.size 3 1 v (5 + k) (accL (5 + k)) ∧ Below w.heap.size w wr) (fun _ i _ => 64 - (intOf i).toNat)
      case atStart => exact ⟨0, by omega, rfl, hown, hbl⟩
      case round =>
        obtain ⟨k, hk, rfl, hown, hbl⟩ := hrel
        have hsz := hbl.size
        go_wp2_with (first
          | (at_builtin; refine wpList_append_own _ rfl _ _ 26 rfl w.heap.size 3 i0 (.int .i64 0) 1 8 Tryz.underlying26 hi hz0 hz1 hz2 rfl (by decide) _ _ _ rfl (hown.alloc _) ⟨_, 0, none⟩ 1 1 [.int .i64 (100 + k)] rfl rfl (World.news_of_block (heap_alloc_new _ _)) (by intro u hu; simp only [List.mem_cons, List.not_mem_nil, or_false] at hu; subst hu; rfl) (by unfold maxLen; omega) (by omega) (by simp; omega) ?_; intro v1 w1 hown1 hgrow1 _)
          | go_in)
        · obtain ⟨q1, q2⟩ := acc_round hown hbl (by unfold accAt; rw [if_neg (by omega)]; congr 1; omega) hown1 hgrow1
          refine ⟨⟨k + 1, by omega, by go_num, q1, q2⟩, by simp [intOf]; omega⟩
        · have hk64 : k = 64 := by omega
          subst hk64
          obtain ⟨g, cap, rfl, hg1, hg2⟩ := hown.form (by omega)
          go_ret
          refine ⟨g, 0, cap, rfl, hbl, hg1, hg2, fun i hi' => ?_⟩
          have := hown.cells (g := g) rfl i _ (accL_get (k := 69) hi')
          have e : (⟨g, 0, none⟩ : Addr).add i = ⟨g, 0 + i, none⟩ := by unfold Addr.add; split <;> simp_all
          rwa [e] at this
end Go.Proofs.YtlklnffmhclioaaGreatDoor

