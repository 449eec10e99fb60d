/- The walk of ledger.Balance. -/
import Derived.Test.YtlklnffmhclioaaGreatDoorWalkA
namespace Go.Proofs.YtlklnffmhclioaaGreatDoor
open Go.RowKit Go.Maps

theorem law3 : Keyed Tryz.prog 3 := int_keyed Tryz.underlying3
theorem zero3 (w : World) : (zeroValue 3).run Tryz.prog w = .ok (.int .i64 0) w := by kernel_rfl
theorem acct_rng {n : Int} (h : acct n = true) : 0 ≤ n ∧ n < 164 := by
  unfold acct at h
  simp only [Bool.or_eq_true, decide_eq_true_eq] at h
  omega
theorem acct_key {n : Int} (h : acct n = true) : keyOf Tryz.prog 3 (.int .i64 n) = some (.int .i64 n) := by
  obtain ⟨h1, h2⟩ := acct_rng h
  refine keyOf_int_mk Tryz.underlying3 ?_
  simp only [Lit.wf, IntKind.min, IntKind.max, IntKind.signed, IntKind.bits, Bool.and_eq_true, decide_eq_true_eq, if_true]
  omega

theorem alloc_size (w : World) (o : Obj) : (w.alloc o).heap.size = w.heap.size + 1 := by
  show (w.heap.push o).size = _
  simp
theorem alloc_cell (w : World) (c : Array Value) (t : TypeId) (fz : Nat × Nat) (i : Nat) : (w.alloc (.cells c t fz)).cell? ⟨w.heap.size, i, none⟩ = c[i]? := by
  simp only [World.cell?]
  have : (w.alloc (.cells c t fz)).heap[w.heap.size]? = some (.cells c t fz) := by
    show (w.heap.push _)[w.heap.size]? = _
    simp
  rw [this]; rfl

theorem round_atKey {E : Nat → Nat → Int} {k : Nat} (hk : k ≤ 4096) (hr : rightE E k) {D : DataW Unit} (hm : IsMap D) (hD : ∀ a : Int, D.atKey (.int .i64 a) (.lit (.int .i64 0)) = .lit (.int .i64 (bal E a k))) (hne : ¬ E k 1 = E k 2) (o5 : 1 ≤ E k 3) (o6 : E k 3 ≤ 1099511627776)
    {c1 c2 : Int} (hat1 : D.atKey (.int .i64 (E k 2)) (.lit (.int .i64 0)) = .lit (.int .i64 c1)) (hat2 : (D.put (.int .i64 (E k 2)) (.lit (.int .i64 (wrap64 (c1 + E k 3))))).atKey (.int .i64 (E k 1)) (.lit (.int .i64 0)) = .lit (.int .i64 c2)) (a : Int) :
    ((D.put (.int .i64 (E k 2)) (.lit (.int .i64 (wrap64 (c1 + E k 3))))).put (.int .i64 (E k 1)) (.lit (.int .i64 (wrap64 (c2 - E k 3))))).atKey (.int .i64 a) (.lit (.int .i64 0)) = .lit (.int .i64 (bal E a (k + 1))) := by
  have ne : ∀ {x y : Int}, ¬ x = y → (Lit.int .i64 x) ≠ (Lit.int .i64 y) := fun h e => h (by simpa using e)
  have b1 := bal_bound (E k 1) hr
  have b2 := bal_bound (E k 2) hr
  have hk4 : (k : Int) ≤ 4096 := by omega
  have e1 := (hD (E k 2)).symm.trans hat1
  simp only [DataW.lit.injEq, Lit.int.injEq, true_and] at e1
  subst e1
  rw [atKey_put_other (ne hne)] at hat2
  have e2 := (hD (E k 1)).symm.trans hat2
  simp only [DataW.lit.injEq, Lit.int.injEq, true_and] at e2
  subst e2
  have hm2 : IsMap (D.put (.int .i64 (E k 2)) (.lit (.int .i64 (wrap64 (bal E (E k 2) k + E k 3))))) := by
    obtain ⟨es, rfl⟩ := hm
    exact ⟨_, rfl⟩
  by_cases h1 : a = E k 1
  · subst h1
    rw [atKey_put_same hm2 (by trivial)]
    simp only [bal, if_neg (fun e : E k 2 = E k 1 => hne e.symm), if_true]
    rw [w64 (by omega) (by omega)]
    congr 2
    omega
  · rw [atKey_put_other (ne h1)]
    by_cases h2 : a = E k 2
    · subst h2
      rw [atKey_put_same hm (by trivial)]
      simp only [bal, if_neg hne, if_true]
      rw [w64 (by omega) (by omega)]
      congr 2
      omega
    · rw [atKey_put_other (ne h2), hD]
      simp only [bal, if_neg (fun e : E k 2 = a => h2 e.symm), if_neg (fun e : E k 1 = a => h1 e.symm)]
      congr 2
      omega

set_option maxHeartbeats 4000000 in
set_option maxRecDepth 100000 in
theorem bal_any (b off len cap : Nat) (E : Nat → Nat → Int) (acc : Int) (w : World) (hb : b < w.heap.size) (hlen : len ≤ 4096)
    (hc : ∀ j k, j < len → k < 5 → w.cell? ⟨b, off + (j * 5 + k), none⟩ = some (.int .i64 (E j k))) :
    Calls Tryz.prog 7 #[.slice (some ⟨b, off, none⟩) len cap, .int .i64 acc] w fun e w' => e = .returned (balR E len acc) ∧ Below w.heap.size w w' := by
  have hmm := @run_makeMap Tryz.prog
  go_enter Tryz.func7, Tryz.ntmps7
  go_wp2
  go_loopw [15] (fun i wr => ∃ (k : Nat) (D : DataW Unit), k ≤ len ∧ i = .int .i64 k ∧ rightE E k ∧ wr.ownsMap Tryz.prog 3 (plainElem Tryz.prog 3) w.heap.size (2 * k) D ∧
      (∀ a : Int, D.atKey (.int .i64 a) (.lit (.int .i64 0)) = .lit (.int .i64 (bal E a k))) ∧ Below w.heap.size w wr ∧ w.heap.size < wr.heap.size) (fun i _ => len - (intOf i).toNat)
  case atStart => exact ⟨0, .map [], Nat.zero_le _, rfl, fun j hj => absurd hj (by omega), World.ownsMap_made _ _ _ _, fun a => rfl, (Below.refl _ _).alloc (Nat.le_refl _) _, by rw [alloc_size]; omega⟩
  case round =>
    obtain ⟨k, D, hk, rfl, hr, hown, hD, hbl, hsz⟩ := hrel
    have g0 : k < len → wr.cell? ⟨b, off + k * 5, none⟩ = some (.int .i64 (E k 0)) := fun h1 => (hbl.cell hb).trans (hc k 0 h1 (by omega))
    have g1 : k < len → wr.cell? ⟨b, off + k * 5 + 1, none⟩ = some (.int .i64 (E k 1)) := fun h1 => (hbl.cell hb).trans (hc k 1 h1 (by omega))
    have g2 : k < len → wr.cell? ⟨b, off + k * 5 + 2, none⟩ = some (.int .i64 (E k 2)) := fun h1 => (hbl.cell hb).trans (hc k 2 h1 (by omega))
    have g3 : k < len → wr.cell? ⟨b, off + k * 5 + 3, none⟩ = some (.int .i64 (E k 3)) := fun h1 => (hbl.cell hb).trans (hc k 3 h1 (by omega))
    have g4 : k < len → wr.cell? ⟨b, off + k * 5 + 4, none⟩ = some (.int .i64 (E k 4)) := fun h1 => (hbl.cell hb).trans (hc k 4 h1 (by omega))
    go_wp2_with (first
      | (go_at_call 12; refine (account_any _ _).mono ?_; rintro e w' ⟨rfl, rfl⟩)
      | (at_lookup; refine wpList_lookup_own_int _ rfl _ _ 65 rfl 3 3 .i64 law3 Tryz.underlying65 Tryz.underlying3 (zero3 _) w.heap.size _ _ rfl hown1 _ _ rfl (acct_key (by assumption)) ?_; intro c2 hat2 hwc2)
      | (at_lookup; refine wpList_lookup_own_int _ rfl _ _ 65 rfl 3 3 .i64 law3 Tryz.underlying65 Tryz.underlying3 (zero3 _) w.heap.size _ _ rfl (hown.alloc _) _ _ rfl (acct_key (by assumption)) ?_; intro c1 hat1 hwc1)
      | (at_lookup; refine wpList_lookup_own_int _ rfl _ _ 65 rfl 3 3 .i64 law3 Tryz.underlying65 Tryz.underlying3 (zero3 _) w.heap.size _ _ rfl hown _ _ rfl (acct_key (by first | assumption | simp_all)) ?_; intro c3 hat3 hwc3)
      | (at_mapUpdate; refine wpList_mapUpdate_own _ rfl _ _ _ 65 rfl 3 3 law3 Tryz.underlying65 _ w.heap.size _ _ rfl (hown.alloc _) (by unfold maxLen; omega) _ _ _ rfl rfl (acct_key (by assumption)) _ [] (plainElem_int Tryz.underlying3 (wrap64_wf _)) ?_; intro w1 hown1 hgrow1
         have x1 : w1.cell? ⟨wr.heap.size, 1, none⟩ = some (.int .i64 (E k 1)) := (World.cell?_of_block (hgrow1.block wr.heap.size (by rw [alloc_size]; omega) (fun e => by have := Option.some.inj e; omega))).trans (alloc_cell _ _ _ _ _)
         have x3 : w1.cell? ⟨wr.heap.size, 3, none⟩ = some (.int .i64 (E k 3)) := (World.cell?_of_block (hgrow1.block wr.heap.size (by rw [alloc_size]; omega) (fun e => by have := Option.some.inj e; omega))).trans (alloc_cell _ _ _ _ _)
         )
      | (at_mapUpdate; refine wpList_mapUpdate_own _ rfl _ _ _ 65 rfl 3 3 law3 Tryz.underlying65 _ w.heap.size _ _ rfl hown1 (by unfold maxLen; omega) _ _ _ rfl rfl (acct_key (by assumption)) _ [] (plainElem_int Tryz.underlying3 (wrap64_wf _)) ?_; intro w2 hown2 hgrow2)
      | go_in)
    all_goals first
      | (go_ret2
         show Ending.returned (.tuple #[.int .i64 0, .int .i64 580]) = _ ∧ _
         refine ⟨congrArg _ (balR_no fun hR => ?_).symm, hbl.alloc hbl.size _⟩
         obtain ⟨o1, o2, o3, o4, o5, o6, o7, o8⟩ := hR.1 k (by assumption)
         first
           | omega
           | (simp_all; done)
           | (rename_i hx; rcases hx with (((hx | hx) | hx) | hx) | hx <;> first | omega | exact o2 (by simpa using hx)))
      | (go_ret2
         show Ending.returned (.tuple #[.int .i64 0, .int .i64 580]) = _ ∧ _
         exact ⟨congrArg _ (balR_no fun hR => by have := hR.2; simp_all).symm, hbl⟩)
      | (go_ret2
         have hk2 : k = len := by omega
         subst hk2
         have h3 := (hD acc).symm.trans hat3
         simp only [DataW.lit.injEq, Lit.int.injEq, true_and] at h3
         subst h3
         exact ⟨congrArg _ (balR_yes ⟨hr, by simp_all⟩).symm, hbl⟩)
      | (have hlt : k < len := by assumption
         have hne : ¬ E k 1 = E k 2 := by assumption
         have o5 : 1 ≤ E k 3 := by assumption
         have o6 : E k 3 ≤ 1099511627776 := by assumption
         have hok : okE E k := ⟨by assumption, by assumption, by assumption, by assumption, by assumption, by assumption, by assumption, by omega⟩
         refine ⟨⟨k + 1, _, by omega, by go_num, rightE_succ hr hok, (by have := hown2; rwa [show 2 * k + 1 + 1 = 2 * (k + 1) by omega] at this), ?_, ?_, ?_⟩, by simp [intOf]; omega⟩
         · exact round_atKey (by omega) hr hown.isMap hD hne o5 o6 hat1 hat2
         · exact ((hbl.alloc hbl.size _).grown hgrow1 (by rw [alloc_size]; omega) (fun _ e => by have := Option.some.inj e; omega)).grown hgrow2 (by have := hgrow1.size; rw [alloc_size] at this; omega) (fun _ e => by have := Option.some.inj e; omega)
         · have h1 := hgrow1.size
           have h2 := hgrow2.size
           rw [alloc_size] at h1
           omega)

theorem bal_none (a : Option Addr) (cap : Nat) (E : Nat → Nat → Int) (acc : Int) (w : World) :
    Calls Tryz.prog 7 #[.slice a 0 cap, .int .i64 acc] w fun e w' => e = .returned (balR E 0 acc) ∧ Below w.heap.size w w' := by
  have hmm := @run_makeMap Tryz.prog
  have hown : (w.alloc (.map #[] 0)).ownsMap Tryz.prog 3 (plainElem (H := Unit) Tryz.prog 3) w.heap.size 0 (.map []) := World.ownsMap_made _ _ _ _
  have hbl : Below w.heap.size w (w.alloc (.map #[] 0)) := (Below.refl _ _).alloc (Nat.le_refl _) _
  have hr0 : rightE E 0 := fun j hj => absurd hj (Nat.not_lt_zero j)
  cases hA : acct acc with
  | false =>
    rw [balR_no (by rintro ⟨_, h⟩; rw [hA] at h; cases h)]
    go_enter Tryz.func7, Tryz.ntmps7
    go_wp2
    refine wp_loop_rounds 1 ?_
    rw [rounds_succ]
    go_wp2_with (first
      | (go_at_call 12; refine (account_is hA _).mono ?_; rintro e w' ⟨rfl, rfl⟩) | go_in)
    go_ret2
    exact ⟨rfl, hbl⟩
  | true =>
    rw [balR_yes ⟨hr0, hA⟩]
    go_enter Tryz.func7, Tryz.ntmps7
    go_wp2
    refine wp_loop_rounds 1 ?_
    rw [rounds_succ]
    go_wp2_with (first
      | (go_at_call 12; refine (account_is hA _).mono ?_; rintro e w' ⟨rfl, rfl⟩)
      | (at_lookup; refine wpList_lookup_own_int _ rfl _ _ 65 rfl 3 3 .i64 law3 Tryz.underlying65 Tryz.underlying3 (zero3 _) w.heap.size _ _ rfl hown _ _ rfl (acct_key hA) ?_; intro c3 hat3 hwc3) | go_in)
    go_ret2
    have h3 : (0 : Int) = c3 := by
      have : (DataW.map [] : DataW Unit).atKey (.int .i64 acc) (.lit (.int .i64 0)) = .lit (.int .i64 0) := rfl
      have := this.symm.trans hat3
      simpa using this
    subst h3
    exact ⟨rfl, hbl⟩

/-- the slice that came in reads as E says -/
def Reads (E : Nat → Nat → Int) (s : Value) (len : Nat) (w : World) : Prop :=
  ∃ cap, (len = 0 ∧ ∃ a, s = .slice a 0 cap) ∨ ∃ b off, s = .slice (some ⟨b, off, none⟩) len cap ∧ b < w.heap.size ∧ ∀ j k, j < len → k < 5 → w.cell? ⟨b, off + (j * 5 + k), none⟩ = some (.int .i64 (E j k))

theorem Reads.below {E : Nat → Nat → Int} {s : Value} {len : Nat} {w w' : World} (h : Reads E s len w) (hb : Below w.heap.size w w') : Reads E s len w' := by
  obtain ⟨cap, h | ⟨b, off, h1, h2, h3⟩⟩ := h
  · exact ⟨cap, .inl h⟩
  · exact ⟨cap, .inr ⟨b, off, h1, Nat.lt_of_lt_of_le h2 hb.size, fun j k hj hk => (hb.cell h2).trans (h3 j k hj hk)⟩⟩

/-- what both hand back -/
def balV (E : Nat → Nat → Int) (len : Nat) (acc : Int) : Value := if 4096 < len then .tuple #[.int .i64 0, .int .i64 2] else balR E len acc

theorem Reads.isSlice {E : Nat → Nat → Int} {s : Value} {len : Nat} {w : World} (h : Reads E s len w) : ∃ a cap, s = .slice a len cap := by
  obtain ⟨cap, ⟨rfl, a, rfl⟩ | ⟨b, off, rfl, _⟩⟩ := h
  · exact ⟨a, cap, rfl⟩
  · exact ⟨_, cap, rfl⟩

theorem bal_reads {E : Nat → Nat → Int} {s : Value} {len : Nat} {w : World} (acc : Int) (h : Reads E s len w) : Calls Tryz.prog 7 #[s, .int .i64 acc] w fun e w' => e = .returned (balV E len acc) ∧ Below w.heap.size w w' := by
  unfold balV
  by_cases hl : 4096 < len
  · rw [if_pos hl]
    obtain ⟨a, cap, rfl⟩ := h.isSlice
    exact (bal_much a len cap acc w hl).mono fun e w' ⟨h1, h2⟩ => ⟨h1, by rw [h2]; exact Below.refl _ _⟩
  · rw [if_neg hl]
    obtain ⟨cap, ⟨rfl, a, rfl⟩ | ⟨b, off, rfl, h2, h3⟩⟩ := h
    · exact bal_none a cap E acc w
    · exact bal_any b off len cap E acc w h2 (by omega) h3

theorem balV_pair (E : Nat → Nat → Int) (len : Nat) (acc : Int) : ∃ x y : Int, balV E len acc = .tuple #[.int .i64 x, .int .i64 y] := by
  unfold balV balR
  split
  · exact ⟨_, _, rfl⟩
  · split <;> exact ⟨_, _, rfl⟩

end Go.Proofs.YtlklnffmhclioaaGreatDoor

