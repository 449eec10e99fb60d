/- The walk of the law, where sane returns true. -/
import Derived.Test.YtlklnffmhclioaaGreatDoorWalkD
import Derived.Deep.RegionHeld3
import Derived.RegionTactic
import Derived.Deep.DrawnRows
import Derived.Deep.Cut
namespace Go.Proofs.YtlklnffmhclioaaGreatDoor
open Go.RowKit Go.Maps
attribute [local go_sem ↓] Go.wp_at_zero Go.wp_at_succ

theorem right_reads {E : Nat → Nat → Int} {s : Value} {len : Nat} {w : World} (h : Reads E s len w) (hl : len ≤ 300) : Calls Tryz.prog 5 #[s] w fun e w' => e = .returned (.bool (decide (rightE E len))) ∧ Below w.heap.size w w' := by
  obtain ⟨cap, ⟨rfl, a, rfl⟩ | ⟨b, off, rfl, h2, h3⟩⟩ := h
  · refine (right_none a cap w).mono ?_
    rintro e w' ⟨rfl, rfl⟩
    exact ⟨by rw [decide_eq_true (show rightE E 0 from fun j hj => absurd hj (Nat.not_lt_zero j))], Below.refl _ _⟩
  · exact right_any b off len cap E w h2 (by omega) h3
theorem right_is {E : Nat → Nat → Int} {s : Value} {len : Nat} {w : World} {b : Bool} (h : Reads E s len w) (hl : len ≤ 300) (hb : decide (rightE E len) = b) : Calls Tryz.prog 5 #[s] w fun e w' => e = .returned (.bool b) ∧ Below w.heap.size w w' :=
  (right_reads h hl).mono fun e w' ⟨h1, h2⟩ => ⟨by rw [h1, hb], h2⟩
theorem bal_at {E : Nat → Nat → Int} {s : Value} {len : Nat} {w : World} {acc v : Int} (h : Reads E s len w) (hR : rightE E len) (hl : len ≤ 4096) (ha : acct acc = true) (hv : bal E acc len = v) :
    Calls Tryz.prog 7 #[s, .int .i64 acc] w fun e w' => e = .returned (.tuple #[.int .i64 v, .int .i64 0]) ∧ Below w.heap.size w w' :=
  (bal_right h hR hl ha).mono fun e w' ⟨h1, h2⟩ => ⟨by rw [h1, hv], h2⟩

theorem far2 {w : World} {B e size n H g cap : Nat} {xs : List Value} (h : w.ownsRow B e size (.slice (some ⟨g, 0, none⟩) n cap) n xs) (hH : H < B) : some H ≠ some g := by
  intro e1
  have := own_ge h g rfl
  have := Option.some.inj e1
  omega

/-- the world behind both appends -/
def MoreAt (E : Nat → Nat → Int) (len : Nat) (f t A : Int) (W5 : World) (m : Value) (wx : World) : Prop :=
  ∃ g2 cp2, m = .slice (some ⟨g2, 0, none⟩) (len + 1) cp2 ∧ Below W5.heap.size W5 wx ∧ g2 < wx.heap.size ∧ W5.heap.size ≤ g2 ∧ ∀ j k, j < len + 1 → k < 5 → wx.cell? ⟨g2, 0 + (j * 5 + k), none⟩ = some (.int .i64 (moreE E len f t A j k))

theorem MoreAt.mk {E : Nat → Nat → Int} {len g cap : Nat} {f t A : Int} {W5 wx : World} (h : wx.ownsRow W5.heap.size 29 5 (.slice (some ⟨g, 0, none⟩) (len + 1) cap) (len + 1) (cellsL E len ++ entL len f t A 2)) (hb : Below W5.heap.size W5 wx) (hg : g < wx.heap.size) :
    MoreAt E len f t A W5 (.slice (some ⟨g, 0, none⟩) (len + 1) cap) wx :=
  ⟨g, cap, rfl, hb, hg, own_ge h g rfl, more_reads h⟩

set_option maxHeartbeats 4000000 in
set_option maxRecDepth 100000 in
theorem law_any {E : Nat → Nat → Int} {a : Option Addr} {len cap : Nat} {w : World} (f t am : Int) (hf : 0 ≤ f ∧ f < 256) (ht : 0 ≤ t ∧ t < 256) (hm : 0 ≤ am ∧ am < 4294967296) (h : Reads E (.slice a len cap) len w)
    (hs : Calls Tryz.prog 4 #[] w fun e w' => e = .returned (.bool true) ∧ Below w.heap.size w w') :
    Calls Tryz.prog 3 #[.slice a len cap, .int .u8 f, .int .u8 t, .int .u32 am] w fun e w' => e = .returned (.bool true) ∧ Below w.heap.size w w' := by
  by_cases hl : (300 : Int) < len
  · go_enter Tryz.func3, Tryz.ntmps3
    go_wp2_with (first
      | (go_at_call 4; refine hs.mono ?_; rintro e w1 ⟨rfl, hb1⟩) | go_in)
    go_ret
    exact ⟨rfl, hb1⟩
  cases hR : decide (rightE E len)
  case false =>
    go_enter Tryz.func3, Tryz.ntmps3
    go_wp2_with (first
      | (go_at_call 4; refine hs.mono ?_; rintro e w1 ⟨rfl, hb1⟩)
      | (go_at_call 5; refine (right_is (h.below hb1) (by omega) hR).mono ?_; rintro e w2 ⟨rfl, hb2⟩) | go_in)
    go_ret
    exact ⟨rfl, Below.seq hb1 hb2⟩
  obtain ⟨hf0, hf1⟩ := hf
  obtain ⟨ht0, ht1⟩ := ht
  obtain ⟨hm0, hm1⟩ := hm
  obtain ⟨i1, e1⟩ : ∃ i1 : Nat, f.tmod 69 = (i1 : Int) := ⟨(f % 69).toNat, by rw [Int.tmod_eq_emod_of_nonneg hf0]; omega⟩
  obtain ⟨i2, e2⟩ : ∃ i2 : Nat, t.tmod 69 = (i2 : Int) := ⟨(t % 69).toNat, by rw [Int.tmod_eq_emod_of_nonneg ht0]; omega⟩
  have hi1 : i1 < 69 := by rw [Int.tmod_eq_emod_of_nonneg hf0] at e1; omega
  have hi2 : i2 < 69 := by rw [Int.tmod_eq_emod_of_nonneg ht0] at e2; omega
  have wf : IntKind.i64.wrap f = f := by unfold IntKind.wrap; simp [IntKind.signed, IntKind.bits]; omega
  have wt : IntKind.i64.wrap t = t := by unfold IntKind.wrap; simp [IntKind.signed, IntKind.bits]; omega
  have wm : IntKind.i64.wrap am = am := by unfold IntKind.wrap; simp [IntKind.signed, IntKind.bits]; omega
  have k1 : (0 : Int) ≤ (i1 : Int) := by omega
  have k2 : (i1 : Int) < 69 := by omega
  have k3 : (0 : Int) ≤ (i2 : Int) := by omega
  have k4 : (i2 : Int) < 69 := by omega
  go_enter Tryz.func3, Tryz.ntmps3
  go_wp2_with (first
      | (go_at_call 4; refine hs.mono ?_; rintro e w1 ⟨rfl, hb1⟩)
      | (go_at_call 5; refine (right_is (h.below hb1) (by omega) hR).mono ?_; rintro e w2 ⟨rfl, hb2⟩)
      | (go_at_call 6; refine (accounts_any _).mono ?_; rintro e w3 ⟨g, o, c3, rfl, hb3, hg1, hg2, hc⟩)
      | go_in)
  have c1 := hc i1 hi1
  have c2 := hc i2 hi2
  go_region_held3 (fun w' => w'.cell? ⟨g, o + i1, none⟩ = some (.int .i64 (accAt i1)) ∧ w'.cell? ⟨g, o + i2, none⟩ = some (.int .i64 (accAt i2))) (go_keep) (fail)
  go_wp2
  have hwm : IntKind.i64.wrap (1 + am) = 1 + am := by unfold IntKind.wrap; simp [IntKind.signed, IntKind.bits]; omega
  rw [hwm]
  obtain ⟨W5, hW5⟩ : ∃ W5 : World, W5 = (w3.alloc (Obj.cells #[Value.int IntKind.i64 ↑len, Value.int IntKind.i64 (accAt i1), Value.int IntKind.i64 (accAt i2), Value.int IntKind.i64 (1 + am), Value.int IntKind.i64 2] 29)).drew := ⟨_, rfl⟩
  rw [← hW5]
  have hx : W5.heap[w3.heap.size]? = some (Obj.cells #[Value.int IntKind.i64 ↑len, Value.int IntKind.i64 (accAt i1), Value.int IntKind.i64 (accAt i2), Value.int IntKind.i64 (1 + am), Value.int IntKind.i64 2] 29 (0, 0)) := by
    rw [hW5]; exact heap_alloc_new w3 _
  have hz : W5.heap.size = w3.heap.size + 1 := by rw [hW5]; simp
  have hb5 : Below w3.heap.size w3 W5 := by rw [hW5]; exact ((Below.refl _ w3).alloc (Nat.le_refl _) _).drew
  have hw5 : Below w.heap.size w W5 := Below.seq (Below.seq (Below.seq hb1 hb2) hb3) hb5
  have hr5 : Reads E (.slice a len cap) len W5 := h.below hw5
  clear hW5
  generalize hH : w3.heap.size = H at hx hz hb5 ⊢
  have y0 : W5.cell? ⟨H, 0, none⟩ = some (.int .i64 len) := cell_of_row W5 H 0 _ _ _ hx
  have y1 : W5.cell? ⟨H, 1, none⟩ = some (.int .i64 (accAt i1)) := cell_of_row W5 H 1 _ _ _ hx
  have y2 : W5.cell? ⟨H, 2, none⟩ = some (.int .i64 (accAt i2)) := cell_of_row W5 H 2 _ _ _ hx
  have y3 : W5.cell? ⟨H, 3, none⟩ = some (.int .i64 (1 + am)) := cell_of_row W5 H 3 _ _ _ hx
  have y4 : W5.cell? ⟨H, 4, none⟩ = some (.int .i64 2) := cell_of_row W5 H 4 _ _ _ hx
  have hall : ∀ i : Nat, i < 69 → W5.cell? ⟨g, o + i, none⟩ = some (.int .i64 (accAt i)) := fun i hi => (hb5.cell (by show g < H; omega)).trans (hc i hi)
  have hgH : g < H := by omega
  have hRR : rightE E len := of_decide_eq_true hR
  clear wf wt wm hwm e1 e2 c1 c2 k1 k2 k3 k4 hf0 hf1 ht0 ht1 hs hc hx hb1 hb2 hb3 hb5 hg1 hg2
  go_cut [11] from 53 (MoreAt E len (accAt i1) (accAt i2) (1 + am) W5)
  case first =>
    have hln : len ≤ 300 := by omega
    have bA1 : Below W5.heap.size W5 (W5.alloc (.cells #[] 29)).drew := ((Below.refl _ W5).alloc (Nat.le_refl _) _).drew
    have bA2 : Below W5.heap.size W5 ((W5.alloc (.cells #[] 29)).alloc (.cells #[.int .i64 len, .int .i64 (accAt i1), .int .i64 (accAt i2), .int .i64 (1 + am), .int .i64 2] 29)).drew := (((Below.refl _ W5).alloc (Nat.le_refl _) _).alloc (by simp) _).drew
    have bA3 : Below W5.heap.size W5 ((W5.alloc (.cells #[.int .i64 len, .int .i64 (accAt i1), .int .i64 (accAt i2), .int .i64 (1 + am), .int .i64 2] 29)).alloc (.cells #[] 29)).drew := (((Below.refl _ W5).alloc (Nat.le_refl _) _).alloc (by simp) _).drew
    have hA1 : (W5.alloc (.cells #[] 29)).drew.heap[H + 1]? = some (.cells #[] 29) := by rw [← hz]; exact heap_alloc_new W5 _
    have hA2 : ((W5.alloc (.cells #[] 29)).alloc (.cells #[.int .i64 len, .int .i64 (accAt i1), .int .i64 (accAt i2), .int .i64 (1 + am), .int .i64 2] 29)).drew.heap[H + 1]? = some (.cells #[] 29) := by rw [← hz]; exact (Below.heap_alloc (W5.alloc (.cells #[] 29)) _ _ (by simp)).trans (heap_alloc_new W5 _)
    have hC2 : ((W5.alloc (.cells #[] 29)).alloc (.cells #[.int .i64 len, .int .i64 (accAt i1), .int .i64 (accAt i2), .int .i64 (1 + am), .int .i64 2] 29)).drew.heap[H + 1 + 1]? = some (.cells #[.int .i64 len, .int .i64 (accAt i1), .int .i64 (accAt i2), .int .i64 (1 + am), .int .i64 2] 29) := by rw [← hz]; have := heap_alloc_new (W5.alloc (.cells #[] 29)) (.cells #[.int .i64 len, .int .i64 (accAt i1), .int .i64 (accAt i2), .int .i64 (1 + am), .int .i64 2] 29); rwa [alloc_size] at this
    have hA3 : ((W5.alloc (.cells #[.int .i64 len, .int .i64 (accAt i1), .int .i64 (accAt i2), .int .i64 (1 + am), .int .i64 2] 29)).alloc (.cells #[] 29)).drew.heap[H + 1 + 1]? = some (.cells #[] 29) := by rw [← hz]; have := heap_alloc_new (W5.alloc (.cells #[.int .i64 len, .int .i64 (accAt i1), .int .i64 (accAt i2), .int .i64 (1 + am), .int .i64 2] 29)) (.cells #[] 29); rwa [alloc_size] at this
    have hC3 : ((W5.alloc (.cells #[.int .i64 len, .int .i64 (accAt i1), .int .i64 (accAt i2), .int .i64 (1 + am), .int .i64 2] 29)).alloc (.cells #[] 29)).drew.heap[H + 1]? = some (.cells #[.int .i64 len, .int .i64 (accAt i1), .int .i64 (accAt i2), .int .i64 (1 + am), .int .i64 2] 29) := by rw [← hz]; exact (Below.heap_alloc (W5.alloc (.cells #[.int .i64 len, .int .i64 (accAt i1), .int .i64 (accAt i2), .int .i64 (1 + am), .int .i64 2] 29)) _ _ (by simp)).trans (heap_alloc_new W5 _)
    have hHB : H < W5.heap.size := by omega
    have n1 : W5.heap.size ≤ H + 1 := by omega
    have n2 : W5.heap.size ≤ H + 1 + 1 := by omega
    go_region_held3 (fun w' => w'.cell? ⟨H, 0, none⟩ = some (.int .i64 len) ∧ w'.cell? ⟨H, 1, none⟩ = some (.int .i64 (accAt i1)) ∧ w'.cell? ⟨H, 2, none⟩ = some (.int .i64 (accAt i2)) ∧ w'.cell? ⟨H, 3, none⟩ = some (.int .i64 (1 + am)) ∧ w'.cell? ⟨H, 4, none⟩ = some (.int .i64 2))
      (first
        | go_keep
        | (refine ⟨?_, ?_, ?_, ?_, ?_⟩ <;> (rw [grow2.cell_far _ (Nat.lt_of_lt_of_le hHB (Nat.le_trans bA1.size (Nat.le_trans grow1.size (by simp)))) (far2 own1 hHB)]; go_keep))
        | (refine ⟨?_, ?_, ?_, ?_, ?_⟩ <;> (rw [grow2.cell_far _ (Nat.lt_of_lt_of_le hHB (Nat.le_trans bA2.size grow1.size)) (far2 own1 hHB)]; go_keep))
        | (refine ⟨?_, ?_, ?_, ?_, ?_⟩ <;> (rw [grow2.cell_far _ (Nat.lt_of_lt_of_le hHB (Nat.le_trans bA3.size grow1.size)) (far2 own1 hHB)]; go_keep))
        | (refine ⟨?_, ?_, ?_, ?_, ?_⟩ <;> (rw [grow1.cell_far _ (by simp [hz]; try omega) (by simp; try omega)]; go_keep)))
      (first
        | (refine step_a1 53 54 (by rfl) (by rfl) (by rfl) (by rfl) hA1 n1 bA1 hr5 hln ?_; intro g1 cp1 w6 own1 grow1 lt1; have ord1 : True := trivial)
        | (refine step_a1 53 54 (by rfl) (by rfl) (by rfl) (by rfl) hA2 n1 bA2 hr5 hln ?_; intro g1 cp1 w6 own1 grow1 lt1; have ord2 : True := trivial)
        | (refine step_a1 53 54 (by rfl) (by rfl) (by rfl) (by rfl) hA3 n2 bA3 hr5 hln ?_; intro g1 cp1 w6 own1 grow1 lt1; have ord3 : True := trivial)
        | (have _o := ord1; refine step_a2 55 57 (by rfl) (by rfl) (by rfl) (by rfl) (own1.alloc _) (heap_alloc_new w6 _) (Nat.le_trans (Nat.le_trans bA1.size grow1.size) (by simp)) hln ?_; intro g2 cp2 w7 own2 grow2 lt2)
        | (have _o := ord2; refine step_a2 55 57 (by rfl) (by rfl) (by rfl) (by rfl) own1 ((grow1.block (H + 1 + 1) (by simp [hz]) (by simp)).trans hC2) (Nat.le_trans bA2.size grow1.size) hln ?_; intro g2 cp2 w7 own2 grow2 lt2)
        | (have _o := ord3; refine step_a2 55 57 (by rfl) (by rfl) (by rfl) (by rfl) own1 ((grow1.block (H + 1) (by simp [hz]) (by simp)).trans hC3) (Nat.le_trans bA3.size grow1.size) hln ?_; intro g2 cp2 w7 own2 grow2 lt2)
        | fail)
    all_goals (go_wp2_with fail; go_meet)
    all_goals first
      | (have _o := ord1
         have b6 := bA1.grown grow1 bA1.size (fun k e => by cases e; exact n1)
         exact MoreAt.mk own2 ((b6.alloc b6.size _).grown grow2 (Nat.le_trans b6.size (by simp)) (own_ge own1)) lt2)
      | (have _o := ord2
         have b6 := bA2.grown grow1 bA2.size (fun k e => by cases e; exact n1)
         exact MoreAt.mk own2 (b6.grown grow2 b6.size (own_ge own1)) lt2)
      | (have _o := ord3
         have b6 := bA3.grown grow1 bA3.size (fun k e => by cases e; exact n2)
         exact MoreAt.mk own2 (b6.grown grow2 b6.size (own_ge own1)) lt2)
  case rest =>
    obtain ⟨g2, cp2, rfl, hb6, hg2, hg2b, hcm⟩ := hcut
    have hrl : Reads E (.slice a len cap) len wc := hr5.below hb6
    have hrm : Reads (moreE E len (accAt i1) (accAt i2) (1 + am)) (.slice (some ⟨g2, 0, none⟩) (len + 1) cp2) (len + 1) wc := ⟨cp2, .inr ⟨g2, 0, rfl, hg2, hcm⟩⟩
    have hall' : ∀ i : Nat, i < 69 → wc.cell? ⟨g, o + i, none⟩ = some (.int .i64 (accAt i)) := fun i hi => (hb6.cell (by show g < W5.heap.size; omega)).trans (hall i hi)
    have z1 : wc.cell? ⟨H, 1, none⟩ = some (.int .i64 (accAt i1)) := (hb6.cell (by show H < W5.heap.size; omega)).trans y1
    have z2 : wc.cell? ⟨H, 2, none⟩ = some (.int .i64 (accAt i2)) := (hb6.cell (by show H < W5.heap.size; omega)).trans y2
    have z3 : wc.cell? ⟨H, 3, none⟩ = some (.int .i64 (1 + am)) := (hb6.cell (by show H < W5.heap.size; omega)).trans y3
    have hHc : H < wc.heap.size := by have := hb6.size; omega
    have hgc : g < wc.heap.size := by omega
    have hwc : Below w.heap.size w wc := Below.seq hw5 hb6
    clear y0 y1 y2 y3 y4 hall hcm hr5 hb6 hw5 hg2 hg2b hz hR
    go_wp2
    go_loopw [12, 61] (fun s i wr => ∃ k : Nat, k ≤ 69 ∧ i = .int .i64 k ∧ s = .int .i64 (sumTo E len k) ∧ Below wc.heap.size wc wr) (fun _ i _ => 69 - (intOf i).toNat)
    case atStart => exact ⟨0, by omega, rfl, rfl, Below.refl _ _⟩
    case round =>
      obtain ⟨k, hk, rfl, rfl, hbl⟩ := hrel
      rcases Nat.lt_or_ge k 69 with hlt | hge
      · have ga : wr.cell? ⟨g, o + k, none⟩ = some (.int .i64 (accAt k)) := (hbl.cell hgc).trans (hall' k hlt)
        have hlr := hrl.below hbl
        have hmr := hrm.below hbl
        have x1 := (hbl.cell (p := ⟨H, 1, none⟩) hHc).trans z1
        have x2 := (hbl.cell (p := ⟨H, 2, none⟩) hHc).trans z2
        have x3 := (hbl.cell (p := ⟨H, 3, none⟩) hHc).trans z3
        have hHr : H < wr.heap.size := by have := hbl.size; omega
        obtain ⟨sk, hsk⟩ : ∃ sk, sumTo E len k = sk := ⟨_, rfl⟩
        obtain ⟨bk, hbk⟩ : ∃ bk, bal E (accAt k) len = bk := ⟨_, rfl⟩
        have hnext : sumTo E len (k + 1) = sk + bk := by simp only [sumTo, hsk, hbk]
        have q12 := bal_bound (accAt k) hRR
        rw [hbk] at q12
        obtain ⟨q1, q2⟩ := q12
        have s12 := sumTo_bound hRR (by omega) hk
        rw [hsk] at s12 ⊢
        obtain ⟨s1, s2⟩ := s12
        have q3 : -329853488332800 ≤ bk := by omega
        have q4 : bk ≤ 329853488332800 := by omega
        have s3 : -22759890694963200 ≤ sk := by omega
        have s4 : sk ≤ 22759890694963200 := by omega
        clear q1 q2 s1 s2 hall' z1 z2 z3
        have ha := acct_accAt hlt
        by_cases hft : i1 = i2
        · subst hft
          go_wp2_with (first
            | (go_at_call 7; refine (bal_at hlr hRR (by omega) ha hbk).mono ?_; rintro e w7 ⟨rfl, hb7⟩; have x17 := (hb7.cell (p := ⟨H, 1, none⟩) hHr).trans x1; have x27 := (hb7.cell (p := ⟨H, 2, none⟩) hHr).trans x2)
            | go_in)
          refine ⟨⟨k + 1, by omega, by go_num, by rw [hnext], Below.seq hbl hb7⟩, by simp [intOf]; omega⟩
        · have hft' : ¬ accAt i1 = accAt i2 := fun e => hft (accAt_inj e)
          have hRm := moreE_right (A := 1 + am) hRR hft' (acct_accAt hi1) (acct_accAt hi2) (by omega) (by omega)
          have hbm := moreE_bal (E := E) (len := len) (f := accAt i1) (t := accAt i2) (A := 1 + am) (accAt k)
          rw [hbk] at hbm
          have tok1 : True := trivial
          by_cases hk1 : k = i1
          · subst hk1
            have hk2 : ¬ accAt i2 = accAt k := fun e => hft' e.symm
            have hv : bal (moreE E len (accAt k) (accAt i2) (1 + am)) (accAt k) (len + 1) = bk - (1 + am) := by rw [hbm, if_neg hk2, if_pos rfl]; omega
            clear hbm
            go_wp2_with (first
              | (go_at_call 7; have _t := tok1; refine (bal_at hlr hRR (by omega) ha hbk).mono ?_; rintro e w7 ⟨rfl, hb7⟩; clear tok1; have x17 := (hb7.cell (p := ⟨H, 1, none⟩) hHr).trans x1; have x27 := (hb7.cell (p := ⟨H, 2, none⟩) hHr).trans x2; have x37 := (hb7.cell (p := ⟨H, 3, none⟩) hHr).trans x3; have hH7 : H < w7.heap.size := Nat.lt_of_lt_of_le hHr hb7.size)
              | (go_at_call 7; refine (bal_at (hmr.below hb7) hRm (by omega) ha hv).mono ?_; rintro e w8 ⟨rfl, hb8⟩; have x18 := (hb8.cell (p := ⟨H, 1, none⟩) hH7).trans x17; have x28 := (hb8.cell (p := ⟨H, 2, none⟩) hH7).trans x27; have x38 := (hb8.cell (p := ⟨H, 3, none⟩) hH7).trans x37)
              | go_in)
            refine ⟨⟨k + 1, by omega, by go_num, by rw [hnext], Below.seq (Below.seq hbl hb7) hb8⟩, by simp [intOf]; omega⟩
          by_cases hk3 : k = i2
          · subst hk3
            have hv : bal (moreE E len (accAt i1) (accAt k) (1 + am)) (accAt k) (len + 1) = bk + (1 + am) := by rw [hbm, if_neg hft', if_pos rfl]; omega
            have hk2 : ¬ accAt k = accAt i1 := fun e => hft' e.symm
            clear hbm
            go_wp2_with (first
              | (go_at_call 7; have _t := tok1; refine (bal_at hlr hRR (by omega) ha hbk).mono ?_; rintro e w7 ⟨rfl, hb7⟩; clear tok1; have x17 := (hb7.cell (p := ⟨H, 1, none⟩) hHr).trans x1; have x27 := (hb7.cell (p := ⟨H, 2, none⟩) hHr).trans x2; have x37 := (hb7.cell (p := ⟨H, 3, none⟩) hHr).trans x3; have hH7 : H < w7.heap.size := Nat.lt_of_lt_of_le hHr hb7.size)
              | (go_at_call 7; refine (bal_at (hmr.below hb7) hRm (by omega) ha hv).mono ?_; rintro e w8 ⟨rfl, hb8⟩; have x18 := (hb8.cell (p := ⟨H, 1, none⟩) hH7).trans x17; have x28 := (hb8.cell (p := ⟨H, 2, none⟩) hH7).trans x27; have x38 := (hb8.cell (p := ⟨H, 3, none⟩) hH7).trans x37)
              | go_in)
            refine ⟨⟨k + 1, by omega, by go_num, by rw [hnext], Below.seq (Below.seq hbl hb7) hb8⟩, by simp [intOf]; omega⟩
          · have hk2 : ¬ accAt k = accAt i1 := fun e => hk1 (accAt_inj e)
            have hk4 : ¬ accAt k = accAt i2 := fun e => hk3 (accAt_inj e)
            have hv : bal (moreE E len (accAt i1) (accAt i2) (1 + am)) (accAt k) (len + 1) = bk := by rw [hbm, if_neg (fun e => hk4 e.symm), if_neg (fun e => hk2 e.symm)]; omega
            clear hbm
            go_wp2_with (first
              | (go_at_call 7; have _t := tok1; refine (bal_at hlr hRR (by omega) ha hbk).mono ?_; rintro e w7 ⟨rfl, hb7⟩; clear tok1; have x17 := (hb7.cell (p := ⟨H, 1, none⟩) hHr).trans x1; have x27 := (hb7.cell (p := ⟨H, 2, none⟩) hHr).trans x2; have x37 := (hb7.cell (p := ⟨H, 3, none⟩) hHr).trans x3; have hH7 : H < w7.heap.size := Nat.lt_of_lt_of_le hHr hb7.size)
              | (go_at_call 7; refine (bal_at (hmr.below hb7) hRm (by omega) ha hv).mono ?_; rintro e w8 ⟨rfl, hb8⟩; have x18 := (hb8.cell (p := ⟨H, 1, none⟩) hH7).trans x17; have x28 := (hb8.cell (p := ⟨H, 2, none⟩) hH7).trans x27; have x38 := (hb8.cell (p := ⟨H, 3, none⟩) hH7).trans x37)
              | go_in)
            refine ⟨⟨k + 1, by omega, by go_num, by rw [hnext], Below.seq (Below.seq hbl hb7) hb8⟩, by simp [intOf]; omega⟩
      · have hk69 : k = 69 := by omega
        subst hk69
        have hz0 := sum_zero hRR
        go_wp2
        go_ret
        exact ⟨rfl, Below.seq hwc hbl⟩
end Go.Proofs.YtlklnffmhclioaaGreatDoor

