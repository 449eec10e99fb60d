/- Regions whose order is drawn: schedules, what is open, what is promised. -/
import Derived.Test.YtlklnffmhclioaaGreatDoorEvO
import Derived.Orders
namespace Go.Proofs.YtlklnffmhclioaaGreatDoor.Ev
open Go.RowKit

/-- what is left of a schedule: each of the others once, behind what it is bound to -/
inductive Sch (ops : Array Oper) : (Nat → Bool) → List Nat → Prop where
  | nil {A : Nat → Bool} (h : ∀ i, i < ops.size → A i = true) : Sch ops A []
  | cons {A : Nat → Bool} {i : Nat} {is : List Nat} (hi : i < ops.size) (hn : A i = false) (hb : ∀ o e, ops[i]? = some o → e ∈ o.after.toList → Region.binds .any e = true → A e.on = true)
      (k : Sch ops (fun j => j == i || A j) is) : Sch ops A (i :: is)

theorem binds_any {md : Region.Mode} {e : Edge} (h : Region.binds .any e = true) : Region.binds md e = true := by
  unfold Region.binds at *
  split at h <;> simp_all

theorem countP_off {p q : Nat → Bool} {i : Nat} : ∀ {l : List Nat}, l.Nodup → i ∈ l → p i = true → q i = false → (∀ j, j ≠ i → q j = p j) → l.countP q + 1 = l.countP p
  | [], _, h, _, _, _ => by cases h
  | a :: l, hn, hm, hp, hq, he => by
    rw [List.nodup_cons] at hn
    by_cases ha : a = i
    · subst ha
      have : l.countP q = l.countP p := List.countP_congr fun x hx => by
        have : x ≠ a := fun e => hn.1 (e ▸ hx)
        rw [he x this]
      simp [hp, hq, this]
    · have hm' : i ∈ l := by
        cases hm with
        | head => exact absurd rfl ha
        | tail _ h => exact h
      have ih := countP_off hn.2 hm' hp hq he
      simp only [List.countP_cons, he a ha]
      omega

/-- the least of some that there are -/
theorem least (rank : Nat → Nat) (p : Nat → Prop) : ∀ (n : Nat), (∃ i, p i ∧ rank i ≤ n) → ∃ i, p i ∧ ∀ j, p j → rank i ≤ rank j
  | 0, ⟨i, hi, hr⟩ => ⟨i, hi, fun j _ => by omega⟩
  | n + 1, ⟨i, hi, hr⟩ => by
    by_cases h : ∃ j, p j ∧ rank j ≤ n
    · exact least rank p n h
    · exact ⟨i, hi, fun j hj => by
        have : ¬ rank j ≤ n := fun hh => h ⟨j, hj, hh⟩
        omega⟩

section
variable {ops : Array Oper} {md : Region.Mode}

theorem mem_ready {listed : Array Bool} {i : Nat} (hi : i < ops.size) : i ∈ Region.ready md ops listed ↔ listed.getD i true = false ∧ ∀ o, ops[i]? = some o → ∀ e ∈ o.after.toList, Region.binds md e = true → listed.getD e.on false = true := by
  have ho : ops[i]? = some ops[i] := by simp [hi]
  simp only [Region.ready, List.mem_filter, List.mem_range, hi, true_and, ho, Option.map_some, Option.getD_some, Bool.and_eq_true, Bool.not_eq_true']
  constructor
  · rintro ⟨h1, h2⟩
    refine ⟨h1, fun o ho' e he hb => ?_⟩
    cases ho'
    rw [← Array.all_toList] at h2
    have := List.all_eq_true.1 h2 e he
    simpa [hb] using this
  · rintro ⟨h1, h2⟩
    refine ⟨h1, ?_⟩
    rw [← Array.all_toList]
    refine List.all_eq_true.2 fun e he => ?_
    cases hb : Region.binds md e with
    | false => rfl
    | true => simpa using h2 _ rfl e he hb

theorem go_Sch (rank : Nat → Nat) (hr : ∀ i o e, ops[i]? = some o → e ∈ o.after.toList → Region.binds md e = true → e.on < ops.size ∧ rank e.on < rank i) : ∀ (fuel t : Nat) (listed : Array Bool), listed.size = ops.size →
    (List.range ops.size).countP (fun i => !listed.getD i true) = fuel → Sch ops (fun i => listed.getD i true) (Region.linearise.go md ops fuel t listed []) := by
  intro fuel
  induction fuel with
  | zero =>
    intro t listed hs hc
    refine .nil fun i hi => ?_
    have := List.countP_eq_zero.1 hc i (List.mem_range.2 hi)
    simpa using this
  | succ fuel ih =>
    intro t listed hs hc
    -- some are left: the least of them is ready
    have hex : ∃ i, i < ops.size ∧ listed.getD i true = false := by
      have hpos : 0 < (List.range ops.size).countP (fun i => !listed.getD i true) := by omega
      obtain ⟨i, h1, h2⟩ := List.countP_pos_iff.1 hpos
      exact ⟨i, List.mem_range.1 h1, by simpa using h2⟩
    have hready : Region.ready md ops listed ≠ [] := by
      obtain ⟨i, hi⟩ := hex
      obtain ⟨m, ⟨m1, m2⟩, m3⟩ := least rank (fun i => i < ops.size ∧ listed.getD i true = false) (rank i) ⟨i, hi, Nat.le_refl _⟩
      have : m ∈ Region.ready md ops listed := (mem_ready m1).2 ⟨m2, fun o ho e he hb => by
        obtain ⟨h1, h2⟩ := hr m o e ho he hb
        cases hl : listed.getD e.on false with
        | true => rfl
        | false =>
          have h3 : listed.getD e.on true = false := by
            have hlt : e.on < listed.size := by omega
            simp [Array.getD, hlt] at hl ⊢
            exact hl
          have := m3 e.on ⟨h1, h3⟩
          omega⟩
      intro hnil
      rw [hnil] at this
      cases this
    simp only [Region.linearise.go]
    change Sch ops _ (match (Region.ready md ops listed)[t % (Region.ready md ops listed).length]? with
      | some i => Region.linearise.go md ops fuel (t / (Region.ready md ops listed).length) (listed.setIfInBounds i true) [i]
      | none => [].reverse)
    have hlen : t % (Region.ready md ops listed).length < (Region.ready md ops listed).length := Nat.mod_lt _ (List.length_pos_iff.2 hready)
    cases hi : (Region.ready md ops listed)[t % (Region.ready md ops listed).length]? with
    | none => rw [List.getElem?_eq_none_iff] at hi; omega
    | some i =>
      simp only []
      have hmem := List.mem_of_getElem? hi
      have hlt : i < ops.size := by
        have : i ∈ List.range ops.size := (List.mem_filter.1 hmem).1
        exact List.mem_range.1 this
      obtain ⟨r1, r2⟩ := (mem_ready hlt).1 hmem
      rw [linearise_go_acc, List.reverse_singleton, List.singleton_append]
      have hA : (fun j => (listed.setIfInBounds i true).getD j true) = (fun j => j == i || listed.getD j true) := by
        funext j
        by_cases hj : j = i
        · subst hj
          have : j < listed.size := by omega
          simp [Array.getD, this]
        · have hj' : (j == i) = false := by simpa using hj
          rw [hj', Bool.false_or, Array.getD_eq_getD_getElem?, Array.getD_eq_getD_getElem?, Array.getElem?_setIfInBounds_ne (Ne.symm hj)]
      refine .cons hlt r1 (fun o e ho he hb => ?_) ?_
      · have h1 := r2 o ho e he (binds_any hb)
        have hlt2 : e.on < listed.size := by
          obtain ⟨h2, _⟩ := hr i o e ho he (binds_any hb)
          omega
        simp [Array.getD, hlt2] at h1 ⊢
        exact h1
      · rw [← hA]
        refine ih _ _ (by simpa using hs) ?_
        have := countP_off (p := fun i => !listed.getD i true) (q := fun j => !(listed.setIfInBounds i true).getD j true) (i := i) List.nodup_range (List.mem_range.2 hlt) (by simp [r1])
          (by have : (fun j => (listed.setIfInBounds i true).getD j true) i = true := by rw [hA]; simp
              simp)
          (fun j hj => by
            have : (fun j => (listed.setIfInBounds i true).getD j true) j = listed.getD j true := by rw [hA]; simp [hj]
            show (!(listed.setIfInBounds i true).getD j true) = !listed.getD j true
            rw [← this])
        omega

theorem linearise_Sch (rank : Nat → Nat) (hr : ∀ i o e, ops[i]? = some o → e ∈ o.after.toList → Region.binds md e = true → e.on < ops.size ∧ rank e.on < rank i) (t : Nat) : Sch ops (fun i => !decide (i < ops.size)) (Region.linearise md ops t) := by
  have := go_Sch rank hr ops.size t (Array.replicate ops.size false) (by simp) (by
    rw [List.countP_eq_length.2]
    · simp
    · intro i hi
      have := List.mem_range.1 hi
      simp [Array.getD, this])
  have hA : (fun i => (Array.replicate ops.size false).getD i true) = (fun i => !decide (i < ops.size)) := by
    funext i
    by_cases hi : i < ops.size <;> simp [Array.getD, hi]
  rw [hA] at this
  exact this

theorem rankOk_spec {all : List Oper} {ord : List Nat} (h : rankOk md all ord = true) {i : Nat} {o : Oper} (ho : all[i]? = some o) {e : Edge} (he : e ∈ o.after.toList) (hb : Region.binds md e = true) : e.on < all.length ∧ idx e.on ord < idx i ord := by
  unfold rankOk at h
  have hm : (o, i) ∈ all.zipIdx := by
    rw [List.mem_zipIdx_iff_getElem?]; exact ho
  have := List.all_eq_true.1 (List.all_eq_true.1 h _ hm) e he
  simp only [hb, Bool.not_true, Bool.false_or, Bool.and_eq_true] at this
  exact ⟨Nat.le_of_ble_eq_true this.1, Nat.le_of_ble_eq_true this.2⟩

/-- every schedule of a region that is in order -/
theorem schedule_Sch {cl : List Cl} {an : List Nat} (h : regOk ops.toList cl an = true) (mx : Bool) (t : Nat) : Sch ops (fun i => !decide (i < ops.size)) (Region.schedule mx ops t) := by
  simp only [regOk, Bool.and_eq_true] at h
  obtain ⟨⟨⟨h1, h2⟩, h3⟩, h4⟩ := h
  have key : ∀ {md : Region.Mode} {ord : List Nat}, rankOk md ops.toList ord = true → ∀ t, Sch ops (fun i => !decide (i < ops.size)) (Region.linearise md ops t) := by
    intro md ord hk t
    refine linearise_Sch (fun i => idx i ord) (fun i o e ho he hb => ?_) t
    have := rankOk_spec hk (i := i) (o := o) (by simpa using ho) he hb
    simpa using this
  unfold Region.schedule
  split
  · exact key h1 _
  · split
    · exact key h2 _
    · exact key h3 _
end
end Go.Proofs.YtlklnffmhclioaaGreatDoor.Ev

namespace Go.Proofs.YtlklnffmhclioaaGreatDoor.Ev
open Go.RowKit

section
variable {Pr : Program} {B : Nat} {w0 w : World} {ρ : En} {h : AH}

/-- what an operation that makes a block does: the machine's object stands for o, its value for mk of whatever name the block gets -/
def Made (Pr : Program) (ρ : En) (w : World) (r : Result Next) (o : AObj) (mk : P → AV) : Prop :=
  ∃ obj v, Gives r v { w with heap := w.heap.push obj } ∧ O Pr ρ (some obj) o ⟨w.heap.size, 0, 0, 0⟩ ∧ ∀ q, V Pr (upd ρ q ⟨w.heap.size, 0, 0, 0⟩) (mk q) v

theorem rowO (n : Nat) (t : TypeId) {l : List AV} {cs : Array Value} (hl : VL Pr ρ l cs.toList) (h1 : ∀ v ∈ cs.toList, v.oneCell' = true) : O Pr ρ (some (.cells cs t)) (.cells true l) ⟨n, 0, 0, 0⟩ := by
  have hlen := hl.length
  refine ⟨cs, t, (0, 0), rfl, ?_, fun _ i _ => by simp, fun _ => by simp, by simp at hlen ⊢; omega, by simp⟩
  intro i a hi
  obtain ⟨v, g1, g2⟩ := hl.get hi
  exact ⟨v, by simpa using g1, g2, h1 v (List.mem_of_getElem? g1)⟩

theorem made_new {t : TypeId} {z : List AV} (hz : tZc Pr t = some z) : Made Pr ρ w ((do pure (.value (← Instr.alloc t true (.tuple #[]))) : Sem Next).run Pr w) (.cells true z) (fun q => .ptr q 0) := by
  obtain ⟨v, _, g1, k1, k2, _⟩ := run_zc (w := w) (ρ := ρ) hz
  refine ⟨_, .pointer (some (ad ⟨w.heap.size, 0, 0, 0⟩ 0)), .inl ?_, rowO _ t k1 k2, fun q => .ptr (upd_same _ _ _)⟩
  simp [Instr.alloc, g1, newVar, newRow, ad]

theorem made_box (t : TypeId) {x : AV} {v : Value} (hx : V Pr ρ x v) {a : AV} {l : List AV} (hc : cellsA x = a :: l) :
    Made Pr ρ w ((do pure (.value (← Instr.box t v)) : Sem Next).run Pr w) (.cells true (a :: l)) (fun q => .ptr q 0) := by
  have hnt : ∀ l, x ≠ .tup l := by intro l hh; subst hh; cases hc
  obtain ⟨k1, k2⟩ := hx.cellsA hnt
  rw [hc] at k1
  refine ⟨_, .pointer (some (ad ⟨w.heap.size, 0, 0, 0⟩ 0)), .inl ?_, rowO _ t k1 k2, fun q => .ptr (upd_same _ _ _)⟩
  simp [Instr.box, newVar, newRow, ad]

theorem made_bsl {t el : TypeId} {n sz : Nat} (ht : Pr.underlying t = some (.slice el)) (hs : tSz Pr el = some sz) (h0 : sz ≠ 0) (hle : n * sz ≤ 100000) {z : List AV} (hz : tZc Pr el = some z)
    {tm : T AV} {ev : Operand → Value} {ps : Array (Nat × Operand)} {qs : List (Nat × Nat × Opd)} (hc : cParts Pr (fun i => some (i * sz, sz)) ps.toList = some qs) (hx : ∀ p ∈ ps.toList, OP Pr ρ tm ev p.2)
    {l : List AV} (hf : fillL tm qs (repl z n) = some l) : Made Pr ρ w ((do pure (.value (← Instr.buildSlice t n (ps.map fun (i, x) => (i, ev x)))) : Sem Next).run Pr w) (.cells true l) (fun q => .sl q 0 0 n (.exact n)) := by
  obtain ⟨v, m, g1, k1, k2, k3, k4, k5⟩ := run_zc (w := w) (ρ := ρ) hz
  rw [hs] at k3; cases k3
  obtain ⟨q1, q2⟩ := zeros_sound k1 k2 k5 h0 n
  obtain ⟨cs', f1, f2, f3⟩ := fill_sound (Pr := Pr) (ρ := ρ) _ hc hx hf q1 q2
  refine ⟨_, .slice (some (ad ⟨w.heap.size, 0, 0, 0⟩ 0)) n n, .inl ?_, rowO _ el f2 f3, fun q => .slE (upd_same _ _ _) (Nat.le_refl _)⟩
  have hps : (ps.map fun (x : Nat × Operand) => (x.1, ev x.2)).toList = ps.toList.map fun p => (p.1, ev p.2) := by simp
  have hlim : ¬ (n * sz > 2 ^ 24) := by omega
  simp only [Instr.buildSlice, Sem.run_bind, Result.andThen_ok, run_underlying ht, run_sizeOf hs, if_neg hlim, Sem.run_pure]
  by_cases hn0 : n * sz = 0
  · have hn : n = 0 := (Nat.mul_eq_zero.1 hn0).resolve_right h0
    subst hn
    simp only [Nat.zero_mul, if_true, Sem.run_bind, Sem.run_pure, Result.andThen_ok]
    have hz0 : ((Array.range 0).map fun x => (#[] : Array Value)[x % (#[] : Array Value).size]!) = (Array.range (0 * sz)).map fun i => v.cells[i % v.cells.size]! := by simp
    rw [hz0, hps, f1]
    simp [newRow, ad]
  · simp only [if_neg hn0, Sem.run_bind, g1, Result.andThen_ok, Sem.run_pure]
    rw [hps, f1]
    simp [newRow, ad]

theorem made_mks {t el : TypeId} {sz : Nat} (ht : Pr.underlying t = some (.slice el)) (hel : tEl Pr el = some sz) {z : List AV} (hz : tZc Pr el = some z) {l c : AV} {lv cv : Value}
    (hl : V Pr ρ l lv) (hc : V Pr ρ c cv) {nl nc : Nat} (h1 : natOf l = some nl) (h2 : natOf c = some nc) (hb : (Nat.ble nl nc && Nat.blt nc 100000) = true) : Made Pr ρ w ((do pure (.value (← Instr.makeSlice t lv cv)) : Sem Next).run Pr w) (.cells true (repl z nc)) (fun q => .sl q 0 0 nl (.exact nc)) := by
  obtain ⟨kl, hkl⟩ := natOf_sound h1 hl
  obtain ⟨kc, hkc⟩ := natOf_sound h2 hc
  subst hkl hkc
  simp only [Bool.and_eq_true] at hb
  have b1 := Nat.le_of_ble_eq_true hb.1
  have b2 : nc < 100000 := Nat.le_of_ble_eq_true hb.2
  obtain ⟨i, z', e1, e2, e3, e4, e5, e6⟩ := tEl_spec hel
  obtain ⟨v, m, g1, k1, k2, k3, k4, k5⟩ := run_zc (w := w) (ρ := ρ) hz
  rw [e5] at k3; cases k3
  obtain ⟨q1, q2⟩ := zeros_sound k1 k2 k5 e3 nc
  refine ⟨_, .slice (some (ad ⟨w.heap.size, 0, 0, 0⟩ 0)) nl nc, .inl ?_, rowO _ el q1 q2, fun q => .slE (upd_same _ _ _) b1⟩
  have w1 := wrap_nat nl (by omega)
  have w2 := wrap_nat nc (by omega)
  have hbytes : ¬ ((i.bytes : Int) * (nc : Int) > 2 ^ 48) := by
    intro hgt
    have h2 : i.bytes * nc ≤ 1048576 * 100000 := Nat.mul_le_mul e4 (Nat.le_of_lt b2)
    have h3 : (i.bytes : Int) * (nc : Int) ≤ ((1048576 * 100000 : Nat) : Int) := by rw [← Int.natCast_mul]; exact Int.ofNat_le.2 h2
    exact absurd (Int.lt_of_lt_of_le hgt h3) (by decide)
  have hcond : ((decide ((nc : Int) < 0) || decide ((i.bytes : Int) * (nc : Int) > 2 ^ 48)) || decide ((nl : Int) < 0) || decide ((nl : Int) > (nc : Int))) = false := by
    simp only [Bool.or_eq_false_iff, decide_eq_false_iff_not]
    refine ⟨⟨⟨by omega, hbytes⟩, by omega⟩, by omega⟩
  simp only [Instr.makeSlice, Sem.run_bind, run_underlying ht, Result.andThen_ok, asInt, asIntOf, Sem.run_pure, run_typeInfo e1, w1, w2]
  rw [if_neg (by rw [hcond]; simp)]
  simp only [Sem.run_bind, run_askRoom, Result.andThen_ok, run_sizeOf e5, Int.toNat_natCast]
  by_cases hn0 : nc * sz = 0
  · have hn : nc = 0 := (Nat.mul_eq_zero.1 hn0).resolve_right e3
    subst hn
    simp [newRow, ad]
    have hz1 : ∀ f : Nat → Value, (Array.range 0).map f = #[] := fun f => Array.ext' (by simp)
    rw [hz1, hz1]
  · simp only [if_neg hn0, Sem.run_bind, g1, Result.andThen_ok, Sem.run_pure]
    simp [newRow, ad]

theorem made_mkm (t : TypeId) (r : Option Value) (hr : r = none ∨ (∃ k e, Pr.underlying t = some (.map k e)) ∧ ∃ k n, r = some (.int k n)) :
    Made Pr ρ w ((do pure (.value (← Instr.makeMap t r)) : Sem Next).run Pr w) (.map [] 0) (fun q => .map q) := by
  refine ⟨.map #[] 0, .map (some w.heap.size), .inl ?_, ⟨#[], rfl, .nil⟩, fun q => .map (upd_same ρ q ⟨w.heap.size, 0, 0, 0⟩)⟩
  rcases hr with rfl | ⟨⟨k, e, ht⟩, k', n, rfl⟩
  · simp [Instr.makeMap]
  · simp [Instr.makeMap, underlying, ht, asInt, asIntOf]

end
end Go.Proofs.YtlklnffmhclioaaGreatDoor.Ev

namespace Go.Proofs.YtlklnffmhclioaaGreatDoor.Ev
open Go.RowKit

section
variable {Pr : Program} {B : Nat} {w0 w : World} {ρ : En} {h : AH}

/-- a block that the interpreter has made before gets the machine's -/
theorem WR.late (hw : WR Pr B w0 ρ h w) {p : P} (hp : p.toNat < h.nxt.toNat) (hn : ρ p = none) {o : Obj} {e : BE} (he : e.a = w.heap.size) (hO : O Pr ρ (some o) (h.get p) e) :
    WR Pr B w0 (upd ρ p e) h { w with heap := w.heap.push o } := by
  have hget : ∀ k, k < w.heap.size → (w.heap.push o)[k]? = w.heap[k]? := fun k hk => by rw [Array.getElem?_push, if_neg (by omega)]
  have hsz : (w.heap.push o).size = w.heap.size + 1 := by simp
  refine ⟨hw.below.trans ⟨rfl, rfl, rfl, by simp, fun k hk => hget k (by have := hw.base; omega)⟩, by have := hw.base; simp; omega, ?_, ?_, ?_, ?_, ?_, hw.q0⟩
  · intro q e' hq
    by_cases hqp : q = p
    · subst hqp; rw [upd_same] at hq; cases hq
      show O Pr _ (w.heap.push o)[e.a]? _ _
      rw [he]
      have : (w.heap.push o)[w.heap.size]? = some o := by simp
      rw [this]
      exact hO.mono (.upd e hn)
    · rw [upd_ne hqp] at hq
      show O Pr _ (w.heap.push o)[e'.a]? _ _
      rw [hget _ (hw.bnd q e' hq)]
      exact (hw.obj q e' hq).mono (.upd e hn)
  · intro q e' hq
    show e'.a < (w.heap.push o).size
    by_cases hqp : q = p
    · subst hqp; rw [upd_same] at hq; cases hq; omega
    · rw [upd_ne hqp] at hq; have := hw.bnd q e' hq; omega
  · intro q e' hq hown
    by_cases hqp : q = p
    · subst hqp; rw [upd_same] at hq; cases hq; have := hw.base; omega
    · rw [upd_ne hqp] at hq; exact hw.own q e' hq hown
  · intro q r e1 e2 hqr hq hr hown hl
    by_cases hqp : q = p
    · subst hqp; rw [upd_same] at hq; cases hq
      rw [upd_ne (Ne.symm hqr)] at hr
      have := hw.bnd r e2 hr; omega
    · rw [upd_ne hqp] at hq
      by_cases hrp : r = p
      · subst hrp; rw [upd_same] at hr; cases hr
        have := hw.bnd q e1 hq; omega
      · rw [upd_ne hrp] at hr
        exact hw.sep q r e1 e2 hqr hq hr hown hl
  · intro q hq
    have hne : q ≠ p := fun hh => by subst hh; omega
    obtain ⟨g1, g2⟩ := hw.fresh q hq
    exact ⟨by rw [upd_ne hne]; exact g1, g2⟩

/-- what a made block is, and its value, whatever the heap -/
noncomputable def madeOf (tm : T AV) : Ins → Option (AObj × (P → AV))
  | .new z => some (.cells true z, fun q => .ptr q 0)
  | .box x => match cellsA (opd tm x) with
    | [] => none
    | a :: l => some (.cells true (a :: l), fun q => .ptr q 0)
  | .bsl z n ps => match fillL tm ps z with
    | some l => some (.cells true l, fun q => .sl q 0 0 n (.exact n))
    | none => none
  | .mkm => some (.map [] 0, fun q => .map q)
  | .mkmr x => match opd tm x with
    | .int _ _ => some (.map [] 0, fun q => .map q)
    | _ => none
  | .mks z l c => match natOf (opd tm l), natOf (opd tm c) with
    | some l, some c => if (Nat.ble l c && Nat.blt c 100000) = true then some (.cells true (repl z c), fun q => .sl q 0 0 l (.exact c)) else none
    | _, _ => none
  | _ => none

theorem madeOf_ins {tm : T AV} {i : Ins} (hc : clI i = .made) : (∃ o mk, madeOf tm i = some (o, mk) ∧ ∀ h : AH, ins1 tm h i = .vh (mk h.nxt) (h.new o)) ∨ ∀ h : AH, ∃ n, ins1 tm h i = .fail n := by
  cases i <;> try (cases hc; done)
  · rename_i z; exact .inl ⟨_, _, rfl, fun h => rfl⟩
  · rename_i x
    simp only [madeOf]
    cases hx : cellsA (opd tm x) with
    | nil => exact .inr fun h => ⟨52, by show iBox h (opd tm x) = _; unfold iBox; rw [hx]⟩
    | cons a l => exact .inl ⟨_, _, rfl, fun h => by show iBox h (opd tm x) = _; unfold iBox; rw [hx]⟩
  · rename_i z n ps
    simp only [madeOf]
    cases hx : fillL tm ps z with
    | none => exact .inr fun h => ⟨11, by show iBsl tm h z n ps = _; unfold iBsl; rw [hx]⟩
    | some l => exact .inl ⟨_, _, rfl, fun h => by show iBsl tm h z n ps = _; unfold iBsl; rw [hx]⟩
  · exact .inl ⟨_, _, rfl, fun h => rfl⟩
  · rename_i x
    simp only [madeOf]
    cases hx : opd tm x with
    | int k n => exact .inl ⟨_, _, rfl, fun h => by show iMkmr h (opd tm x) = _; rw [hx]; rfl⟩
    | _ => exact .inr fun h => ⟨54, by show iMkmr h (opd tm x) = _; rw [hx]; rfl⟩
  · rename_i z l c
    simp only [madeOf]
    cases h1 : natOf (opd tm l) with
    | none => exact .inr fun h => ⟨35, by show iMks h z (opd tm l) (opd tm c) = _; unfold iMks; rw [h1]⟩
    | some nl =>
      cases h2 : natOf (opd tm c) with
      | none => exact .inr fun h => ⟨35, by show iMks h z (opd tm l) (opd tm c) = _; unfold iMks; rw [h1, h2]⟩
      | some nc =>
        simp only
        by_cases hb : (Nat.ble nl nc && Nat.blt nc 100000) = true
        · rw [if_pos hb]
          exact .inl ⟨_, _, rfl, fun h => by show iMks h z (opd tm l) (opd tm c) = _; unfold iMks; rw [h1, h2]; simp only [hb, cond_true]⟩
        · rw [if_neg hb]
          have hb' : (Nat.ble nl nc && Nat.blt nc 100000) = false := by
            cases hx : (Nat.ble nl nc && Nat.blt nc 100000) with
            | true => exact absurd hx hb
            | false => rfl
          exact .inr fun h => ⟨35, by show iMks h z (opd tm l) (opd tm c) = _; unfold iMks; rw [h1, h2]; simp only [hb', cond_false]⟩

/-- the machine's part of it -/
theorem made_sound {tm : T AV} {ev : Operand → Value} {o : Oper} {i : Ins} (hc : cOp Pr o.op = some i) (hmo : madeOp o.op = true) (hop : ∀ x ∈ o.op.operands.toList, OP Pr ρ tm ev x) {ob : AObj} {mk : P → AV} (hm : madeOf tm i = some (ob, mk)) :
    Made Pr ρ w ((execOp ev o).run Pr w) ob mk := by
  generalize hoo : o.op = op at hc hop hmo
  cases op with
  | alloc e =>
    unfold execOp; rw [hoo]; simp only
    simp only [cOp] at hc
    obtain ⟨z, hz, hc⟩ := bind_some hc; cases hc
    cases hm
    exact made_new hz
  | box t x =>
    unfold execOp; rw [hoo]; simp only
    simp only [cOp] at hc
    obtain ⟨y, hy, hc⟩ := bind_some hc; cases hc
    have hx := hop x (by simp [Op.operands]) _ hy
    simp only [madeOf] at hm
    cases hcx : cellsA (opd tm y) with
    | nil => rw [hcx] at hm; cases hm
    | cons a l => rw [hcx] at hm; cases hm; exact made_box t hx hcx
  | buildSlice t n ps =>
    unfold execOp; rw [hoo]; simp only
    simp only [cOp] at hc
    have hps : ∀ p ∈ ps.toList, OP Pr ρ tm ev p.2 := fun p hp => hop p.2 (by simp only [Op.operands, List.mem_map]; exact ⟨p, hp, rfl⟩)
    split at hc
    · rename_i e ht
      obtain ⟨sz, hsz, hc⟩ := bind_some hc
      split at hc
      · cases hc
      · rename_i hn
        obtain ⟨z, hz, hc⟩ := bind_some hc
        obtain ⟨q, hq, hc⟩ := bind_some hc
        cases hc
        simp only [madeOf] at hm
        cases hf : fillL tm q (repl z n) with
        | none => rw [hf] at hm; cases hm
        | some l => rw [hf] at hm; cases hm; exact made_bsl ht hsz (by omega) (by omega) hz hq hps hf
    · cases hc
  | makeMap t r =>
    unfold execOp; rw [hoo]; simp only
    cases r with
    | none =>
      simp only [cOp] at hc
      cases hc
      cases hm
      exact made_mkm t none (.inl rfl)
    | some r =>
      simp only [cOp] at hc
      split at hc
      · rename_i k e hu
        obtain ⟨y, hy, hc⟩ := bind_some hc; cases hc
        have hx := hop r (by simp [Op.operands]) _ hy
        simp only [madeOf] at hm
        generalize hg : opd tm y = av at hx hm
        generalize hv : ev r = v at hx
        cases hx with
        | int kk n =>
          cases hm
          show Made Pr ρ w ((do pure (.value (← Instr.makeMap t (some (ev r)))) : Sem Next).run Pr w) _ _
          rw [hv]
          exact made_mkm t _ (.inr ⟨⟨k, e, hu⟩, kk, n, rfl⟩)
        | _ => cases hm
      · cases hc
  | makeSlice t l c =>
    unfold execOp; rw [hoo]; simp only
    simp only [cOp] at hc
    split at hc
    · rename_i e hu
      obtain ⟨sz, hsz, hc⟩ := bind_some hc
      obtain ⟨z, hz, hc⟩ := bind_some hc
      obtain ⟨a, ha, hc⟩ := bind_some hc
      obtain ⟨b, hb, hc⟩ := bind_some hc
      cases hc
      have h1 := hop l (by simp [Op.operands]) _ ha
      have h2 := hop c (by simp [Op.operands]) _ hb
      simp only [madeOf] at hm
      cases hl : natOf (opd tm a) with
      | none => rw [hl] at hm; cases hm
      | some nl =>
        cases hcc : natOf (opd tm b) with
        | none => rw [hl, hcc] at hm; cases hm
        | some nc =>
          rw [hl, hcc] at hm
          simp only at hm
          split at hm
          · rename_i hbb; cases hm; exact made_mks hu hsz hz h1 h2 hl hcc hbb
          · cases hm
    · cases hc
  | _ => cases hmo

end
end Go.Proofs.YtlklnffmhclioaaGreatDoor.Ev

namespace Go.Proofs.YtlklnffmhclioaaGreatDoor.Ev
open Go.RowKit

section
variable {tm tm' : T AV} {h : AH}

def Same (tm tm' : T AV) (l : List P) : Prop := ∀ p ∈ l, T.get undefA p tm = T.get undefA p tm'
theorem Same.left {a b : List P} (k : Same tm tm' (a ++ b)) : Same tm tm' a := fun p hp => k p (List.mem_append_left _ hp)
theorem Same.right {a b : List P} (k : Same tm tm' (a ++ b)) : Same tm tm' b := fun p hp => k p (List.mem_append_right _ hp)

theorem opd_same {x : Opd} (k : Same tm tm' (rdO x)) : opd tm x = opd tm' x := by
  cases x with
  | s p => exact k p (List.mem_singleton.2 rfl)
  | c v => rfl

theorem opds_same : ∀ {l : List Opd}, Same tm tm' (rdL l) → opds tm l = opds tm' l
  | [], _ => rfl
  | x :: r, k => by
    show opd tm x :: opds tm r = opd tm' x :: opds tm' r
    rw [opd_same k.left, opds_same k.right]

theorem optN_same {d : Nat} {x : Option Opd} (k : Same tm tm' (rdM x)) : optN tm d x = optN tm' d x := by
  cases x with
  | none => rfl
  | some x => show natOf (opd tm x) = natOf (opd tm' x); rw [opd_same k]

theorem fillL_same : ∀ {ps : List (Nat × Nat × Opd)} {cs : List AV}, Same tm tm' (rdP ps) → fillL tm ps cs = fillL tm' ps cs
  | [], _, _ => rfl
  | (off, n, x) :: r, cs, k => by
    have k1 : opd tm x = opd tm' x := opd_same (Same.left (a := rdO x) k)
    have k2 : ∀ cs, fillL tm r cs = fillL tm' r cs := fun cs => fillL_same (Same.right (a := rdO x) k)
    simp only [fillL, k1, k2]

theorem ins1_same {i : Ins} (k : Same tm tm' (insRd i)) : ins1 tm h i = ins1 tm' h i := by
  cases i with
  | new z => rfl
  | mkm => rfl
  | rcv => rfl
  | chk _ _ => rfl
  | lenC n x => rfl
  | pick a b c => simp only [ins1, opd_same (Same.left k), opd_same (Same.left (Same.right k)), opd_same (Same.right (Same.right k))]
  | mu g a b c => simp only [ins1, opd_same (Same.left k), opd_same (Same.left (Same.right k)), opd_same (Same.right (Same.right k))]
  | es a b c => simp only [ins1, opd_same (Same.left k), opd_same (Same.left (Same.right k)), opd_same (Same.right (Same.right k))]
  | bld z ps => simp only [ins1, iBld, fillL_same k]
  | bsl z n ps => simp only [ins1, iBsl, fillL_same k]
  | mkf f a b => simp only [ins1, opds_same (Same.left k), opds_same (Same.right k)]
  | call f l => simp only [ins1, opds_same k]
  | callv f l => simp only [ins1, opd_same (Same.left k), opds_same (Same.right k)]
  | dfr f l => simp only [ins1, opd_same (Same.left k), opds_same (Same.right k)]
  | mn mx f l => simp only [ins1, opd_same (Same.left k), opds_same (Same.right k)]
  | slt x lo hi => simp only [ins1, iSlt, opd_same (Same.left k), optN_same (Same.left (Same.right k)), optN_same (Same.right (Same.right k))]
  | sla n sz x lo hi mx =>
    have k1 := Same.right k
    simp only [ins1, iSla, opd_same (Same.left k), optN_same (Same.left k1), optN_same (Same.left (Same.right k1)), optN_same (Same.right (Same.right k1))]
  | sls sz x lo hi mx =>
    have k1 := Same.right k
    have hmx : ∀ y, mx = some y → opd tm y = opd tm' y := fun y hy => by subst hy; exact opd_same (Same.right (Same.right k1))
    simp only [ins1, iSls, opd_same (Same.left k), optN_same (Same.left k1), optN_same (Same.left (Same.right k1)), optN_same (Same.right (Same.right k1))]
    cases opd tm' x with
    | sl b alt off len c =>
      cases c with
      | exact _ => rfl
      | ghost g gs =>
        dsimp only
        cases mx with
        | none => cases optN tm' 0 lo <;> cases optN tm' len hi <;> rfl
        | some y =>
          cases optN tm' 0 lo <;> cases optN tm' len hi <;> first | rfl | (simp only [hmx y rfl])
    | _ => rfl
  | mv x | box x | ld1 x | ldn _ x | nck x | not x | neg x | cvi _ x | cvs x | cvb x | mki _ x | mkmr x | fa _ x | fld1 _ x | fldn _ _ x | rg _ x | nx _ x | en x
  | ta _ _ _ x | ex _ x | lenS x | lenL x | lenM x | cap x | clr _ x | pan x => simp only [ins1, opd_same (show Same tm tm' (rdO x) from k)]
  | _ => simp only [ins1, opd_same (Same.left k), opd_same (Same.right k)]
end
end Go.Proofs.YtlklnffmhclioaaGreatDoor.Ev

namespace Go.Proofs.YtlklnffmhclioaaGreatDoor.Ev
open Go.RowKit

-- bits
theorem subB_spec {a b : Nat} (h : subB a b = true) {x : Nat} (hx : a.testBit x = true) : b.testBit x = true := by
  have he : a &&& b = a := Nat.eq_of_beq_eq_true h
  rw [← he, Nat.testBit_and] at hx
  simp at hx
  exact hx.2

theorem testBit_or_pow (s i x : Nat) : (s ||| 2 ^ i).testBit x = (s.testBit x || decide (x = i)) := by
  rw [Nat.testBit_or, Nat.testBit_two_pow]
  congr 1
  simp [eq_comm]

theorem testBit_less (s a x : Nat) : (s ^^^ (s &&& a)).testBit x = (s.testBit x && !a.testBit x) := by
  rw [Nat.testBit_xor, Nat.testBit_and]
  cases s.testBit x <;> cases a.testBit x <;> rfl

theorem testBit_foldOr (p : Nat → Bool) (x : Nat) : ∀ (l : List Nat) (s : Nat), (l.foldl (fun s x => if p x then s ||| 2 ^ x else s) s).testBit x = true → s.testBit x = true ∨ (x ∈ l ∧ p x = true)
  | [], s, h => .inl h
  | a :: l, s, h => by
    rw [List.foldl_cons] at h
    rcases testBit_foldOr p x l _ h with h | ⟨h1, h2⟩
    · by_cases hp : p a = true
      · rw [if_pos hp, testBit_or_pow] at h
        simp at h
        rcases h with h | h
        · exact .inl h
        · subst h; exact .inr ⟨List.mem_cons_self .., hp⟩
      · rw [if_neg hp] at h; exact .inl h
    · exact .inr ⟨List.mem_cons_of_mem _ h1, h2⟩

-- ancestors
theorem ancL_get : ∀ (l : List Oper) (acc : List Nat) (i : Nat), i < acc.length → (ancL l acc).getD i 0 = acc.getD i 0
  | [], acc, i, _ => rfl
  | o :: r, acc, i, hi => by
    show (ancL r (acc ++ [anc1 acc o])).getD i 0 = _
    rw [ancL_get r _ i (by simp; omega)]
    simp [List.getD_eq_getElem?_getD, List.getElem?_append_left hi]

theorem ancL_at : ∀ (l : List Oper) (acc : List Nat) (k : Nat) (o : Oper), l[k]? = some o → ∃ acc', (ancL l acc).getD (acc.length + k) 0 = anc1 acc' o ∧ ∀ j, j < acc.length + k → acc'.getD j 0 = (ancL l acc).getD j 0
  | [], acc, k, o, h => by cases h
  | a :: r, acc, 0, o, h => by
    cases h
    refine ⟨acc, ?_, fun j hj => ?_⟩
    · show (ancL r (acc ++ [anc1 acc a])).getD (acc.length + 0) 0 = _
      rw [ancL_get _ _ _ (by simp)]
      simp
    · show _ = (ancL r (acc ++ [anc1 acc a])).getD j 0
      rw [ancL_get _ _ _ (by simp; omega)]
      simp [List.getD_eq_getElem?_getD, List.getElem?_append_left (show j < acc.length by omega)]
  | a :: r, acc, k + 1, o, h => by
    obtain ⟨acc', g1, g2⟩ := ancL_at r (acc ++ [anc1 acc a]) k o (by simpa using h)
    simp only [List.length_append, List.length_singleton] at g1 g2
    refine ⟨acc', ?_, fun j hj => ?_⟩
    · show (ancL r (acc ++ [anc1 acc a])).getD (acc.length + (k + 1)) 0 = _
      rw [← g1]; congr 1; omega
    · exact g2 j (by omega)

theorem anc1_bit {acc : List Nat} {o : Oper} {j : Nat} (h : (anc1 acc o).testBit j = true) : ∃ e ∈ o.after.toList, Region.binds .any e = true ∧ (j = e.on ∨ (acc.getD e.on 0).testBit j = true) := by
  unfold anc1 at h
  have key : ∀ (l : List Edge) (s : Nat), (l.foldl (fun s e => if Region.binds .any e then s ||| 2 ^ e.on ||| acc.getD e.on 0 else s) s).testBit j = true → s.testBit j = true ∨ ∃ e ∈ l, Region.binds .any e = true ∧ (j = e.on ∨ (acc.getD e.on 0).testBit j = true) := by
    intro l
    induction l with
    | nil => intro s h; exact .inl h
    | cons e l ih =>
      intro s h
      rw [List.foldl_cons] at h
      rcases ih _ h with h | ⟨e', h1, h2⟩
      · by_cases hb : Region.binds .any e = true
        · rw [if_pos hb, Nat.testBit_or, testBit_or_pow] at h
          simp only [Bool.or_eq_true, decide_eq_true_eq] at h
          rcases h with (h | h) | h
          · exact .inl h
          · exact .inr ⟨e, List.mem_cons_self .., hb, .inl h⟩
          · exact .inr ⟨e, List.mem_cons_self .., hb, .inr h⟩
        · rw [if_neg hb] at h; exact .inl h
      · exact .inr ⟨e', List.mem_cons_of_mem _ h1, h2⟩
  rcases key _ _ h with h | h
  · simp at h
  · exact h

/-- a bit of an ancestors' set comes of an edge -/
theorem anc_bit {all : List Oper} (hr : rankOk .any all (List.range all.length) = true) {i j : Nat} {o : Oper} (ho : all[i]? = some o) (h : ((ancL all []).getD i 0).testBit j = true) :
    ∃ e ∈ o.after.toList, Region.binds .any e = true ∧ (j = e.on ∨ ((ancL all []).getD e.on 0).testBit j = true) := by
  obtain ⟨acc', g1, g2⟩ := ancL_at all [] i o ho
  simp only [List.length_nil, Nat.zero_add] at g1 g2
  rw [g1] at h
  obtain ⟨e, h1, h2, h3⟩ := anc1_bit h
  refine ⟨e, h1, h2, h3.imp id fun h3 => ?_⟩
  obtain ⟨r1, r2⟩ := rankOk_spec hr ho h1 h2
  have hidx : ∀ (n s k : Nat), k < n → idx (s + k) (List.range' s n) = k := by
    intro n
    induction n with
    | zero => intro s k hk; omega
    | succ n ih =>
      intro s k hk
      rw [List.range'_succ]
      simp only [idx]
      cases k with
      | zero => simp
      | succ k =>
        have : Nat.beq s (s + (k + 1)) = false := by simp [nbeq]
        rw [this, show s + (k + 1) = (s + 1) + k from by omega]
        simp only [cond_false]
        rw [ih (s + 1) k (by omega)]
  have hi : i < all.length := by
    rcases Nat.lt_or_ge i all.length with h | h
    · exact h
    · rw [List.getElem?_eq_none_iff.2 h] at ho; cases ho
  have e1 := hidx all.length 0 e.on r1
  have e2 := hidx all.length 0 i hi
  rw [Nat.zero_add, ← List.range_eq_range'] at e1 e2
  rw [e1, e2] at r2
  rw [← g2 e.on r2]
  exact h3

/-- a set of operations with all that they are bound to -/
def Closed (all : List Oper) (A : Nat → Bool) : Prop := ∀ i, i < all.length → A i = true → ∀ j, ((ancL all []).getD i 0).testBit j = true → A j = true

theorem Closed.add {all : List Oper} (hr : rankOk .any all (List.range all.length) = true) {A : Nat → Bool} (k : Closed all A) {i : Nat} {o : Oper} (ho : all[i]? = some o)
    (hb : ∀ e ∈ o.after.toList, Region.binds .any e = true → A e.on = true) : Closed all (fun j => j == i || A j) := by
  intro x hx hA j hj
  simp only [Bool.or_eq_true, beq_iff_eq] at hA ⊢
  rcases hA with rfl | hA
  · obtain ⟨e, h1, h2, h3⟩ := anc_bit hr ho hj
    have hAe := hb e h1 h2
    rcases h3 with rfl | h3
    · exact .inr hAe
    · exact .inr (k e.on (rankOk_spec hr ho h1 h2).1 hAe j h3)
  · exact .inr (k x hx hA j hj)
end Go.Proofs.YtlklnffmhclioaaGreatDoor.Ev

namespace Go.Proofs.YtlklnffmhclioaaGreatDoor.Ev
open Go.RowKit

def vf : IR → Bool
  | .v _ => true
  | .fail _ => true
  | _ => false

theorem vf_cond {c : Bool} {a b : IR} (ha : vf a = true) (hb : vf b = true) : vf (bif c then a else b) = true := by cases c <;> assumption

theorem vf_binI (op : BinOp) (k : IntKind) (a b : Int) : vf (binI op k a b) = true := by
  cases op <;> first | rfl | exact vf_cond rfl rfl
theorem vf_binS (op : BinOp) (a b : List Nat) : vf (binS op a b) = true := by
  cases op <;> first | rfl | exact vf_cond rfl rfl
theorem vf_bin (op : BinOp) (x y : AV) : vf (iBin op x y) = true := by
  unfold iBin
  split
  · exact vf_cond (vf_binI ..) (vf_cond (vf_binI ..) rfl)
  · exact vf_binS ..
  · rfl
theorem vf_partA (agg : Bool) (off n : Nat) (cs : List AV) : vf (partA agg off n cs) = true := by
  unfold partA
  refine vf_cond ?_ ?_ <;> split <;> rfl
theorem vf_cut3 (b : P) (off len c sz l hh m : Nat) : vf (cut3 b off len c sz l hh m) = true := by
  unfold cut3; exact vf_cond rfl rfl
theorem vf_mnL (mx : Bool) (k : IntKind) : ∀ (r : List AV) (a : Int), vf (mnL mx k a r) = true
  | [], a => rfl
  | x :: r, a => by
    cases x <;> first | rfl | exact vf_mnL mx k r _

theorem vf_en (h : AH) (x : AV) : vf (iEn h x) = true := by
  unfold iEn
  split
  · split
    · split
      · refine vf_cond ?_ rfl
        split <;> rfl
      · rfl
    · rfl
  · rfl

/-- what only computes or looks gives a value, or nothing is known -/
theorem vf_ins {tm : T AV} {h : AH} {i : Ins} (hc : clI i = .pure ∨ clI i = .look) : vf (ins1 tm h i) = true := by
  cases i <;> first | (rcases hc with hc | hc <;> cases hc; done) | skip
  all_goals simp only [ins1]
  all_goals first
    | rfl
    | exact vf_bin ..
    | skip
  all_goals first
    | (unfold iPick; split <;> rfl)
    | (unfold iBld; split <;> rfl)
    | (unfold iLd1; (repeat' split) <;> rfl)
    | (unfold iLdn; (repeat' split) <;> rfl)
    | (unfold iNck; split <;> rfl)
    | (unfold iNul; split <;> rfl)
    | (unfold iEqc; split <;> rfl)
    | (unfold iNot; split <;> rfl)
    | (unfold iNeg; split <;> rfl)
    | (unfold iCvi; split <;> rfl)
    | (unfold iCvs; split <;> first | rfl | exact vf_cond rfl rfl)
    | (unfold iCvb; (repeat' split) <;> rfl)
    | (unfold iFa; split <;> rfl)
    | (unfold iFld; split <;> first | rfl | exact vf_partA ..)
    | (unfold iIa; split <;> first | rfl | exact vf_cond rfl rfl)
    | (unfold iIaa; split <;> first | rfl | exact vf_cond rfl rfl)
    | (unfold iIxs; (repeat' split) <;> rfl)
    | (unfold iIxa; split <;> first | rfl | exact vf_cond (vf_partA ..) rfl)
    | (unfold iTa; split <;> first | rfl | exact vf_cond rfl (vf_cond rfl rfl) | exact vf_cond rfl rfl)
    | (unfold iEx; (repeat' split) <;> rfl)
    | (unfold iLenS; split <;> rfl)
    | (unfold iLenL; split <;> rfl)
    | (unfold iLenM; split <;> rfl)
    | (unfold iCap; split <;> rfl)
    | (unfold iMn; split <;> first | rfl | exact vf_mnL ..)
    | exact vf_en ..
    | (unfold iLk; refine vf_cond rfl ?_; (repeat' split) <;> rfl)
    | (unfold iSlt; (repeat' split) <;> first | rfl | exact vf_cond rfl rfl)
    | (unfold iSla; (repeat' split) <;> first | rfl | exact vf_cut3 ..)
    | (unfold iSls; (repeat' split) <;> first | rfl | exact vf_cut3 .. | exact vf_cond rfl rfl | exact vf_cond rfl (vf_cut3 ..))

theorem kEq_true {a b : IntKind} (h : kEq a b = true) : a = b := by rw [kEq_eq] at h; exact of_decide_eq_true h
theorem eqI_true {a b : Int} (h : eqI a b = true) : a = b := by rw [eqI_eq] at h; simpa using h
theorem eqL_true {a b : List Nat} (h : eqL a b = true) : a = b := by rw [eqL_eq] at h; simpa using h

mutual
theorem eqV_sound : ∀ {a b : AV}, eqV a b = true → a = b
  | .bool a, .bool b, h => by cases a <;> cases b <;> first | rfl | cases h
  | .int k a, .int k' b, h => by
    simp only [eqV] at h
    cases hk : kEq k k' with
    | false => rw [hk] at h; cases h
    | true => rw [hk] at h; rw [kEq_true hk, eqI_true h]
  | .str a, .str b, h => by rw [eqL_true (show eqL a b = true from h)]
  | .ptr0, .ptr0, _ => rfl
  | .ptr b o, .ptr b' o', h => by simp [eqV, nbeq] at h; rw [h.1, h.2]
  | .sl0, .sl0, _ => rfl
  | .sl b a o n c, .sl b' a' o' n' c', h => by simp [eqV, nbeq] at h; obtain ⟨⟨⟨⟨rfl, rfl⟩, rfl⟩, rfl⟩, rfl⟩ := h; rfl
  | .map0, .map0, _ => rfl
  | .map b, .map b', h => by simp [eqV] at h; rw [h]
  | .fn f a b, .fn f' a' b', h => by
    simp [eqV] at h
    obtain ⟨⟨rfl, h1⟩, h2⟩ := h
    rw [eqVs_sound h1, eqVs_sound h2]
  | .yld l, .yld l', h => by simp [eqV] at h; rw [h]
  | .fn0, .fn0, _ => rfl
  | .iface t v, .iface t' v', h => by
    simp [eqV, nbeq] at h
    rw [h.1, eqV_sound h.2]
  | .iface0, .iface0, _ => rfl
  | .agg l, .agg l', h => by rw [eqVs_sound (show eqVs l l' = true by simpa [eqV] using h)]
  | .tup l, .tup l', h => by rw [eqVs_sound (show eqVs l l' = true by simpa [eqV] using h)]
theorem eqVs_sound : ∀ {a b : List AV}, eqVs a b = true → a = b
  | [], [], _ => rfl
  | a :: x, b :: y, h => by
    simp [eqVs] at h
    rw [eqV_sound h.1, eqVs_sound h.2]
end
end Go.Proofs.YtlklnffmhclioaaGreatDoor.Ev

namespace Go.Proofs.YtlklnffmhclioaaGreatDoor.Ev
open Go.RowKit

section
variable {Pr : Program}

theorem cGI_spec {n : Nat} {all : List Oper} {o : Oper} {gi : GI} (hc : cGI Pr n all o = some gi) : cOp Pr o.op = some gi.ins ∧ isChk gi.ins = false ∧
    (gi.d = o.dst.map P.slot) ∧ (∀ d, o.dst = some d → d < n) ∧
    ((o.guard = none ∧ gi.g = none) ∨ ∃ j w q d, o.guard = some (j, w) ∧ all[j]? = some q ∧ q.dst = some d ∧ gi.g = some (P.slot d, w)) := by
  unfold cGI at hc
  obtain ⟨i, hi, hc⟩ := bind_some hc
  cases hk : isChk i with
  | true => rw [hk] at hc; cases hc
  | false =>
  rw [hk] at hc
  simp only [Bool.false_eq_true, if_false] at hc
  have fin : ∀ g, (match o.dst with | none => some (GI.mk g none i) | some d => if d < n then some ⟨g, some (P.slot d), i⟩ else none) = some gi →
      gi.ins = i ∧ gi.g = g ∧ (gi.d = o.dst.map P.slot) ∧ (∀ d, o.dst = some d → d < n) := by
    intro g hc
    cases hd : o.dst with
    | none => rw [hd] at hc; cases hc; exact ⟨rfl, rfl, rfl, fun d h => by cases h⟩
    | some d =>
      rw [hd] at hc
      simp only at hc
      split at hc
      · rename_i hlt; cases hc; exact ⟨rfl, rfl, rfl, fun d' h => by cases h; exact hlt⟩
      · cases hc
  cases hg : o.guard with
  | none =>
    rw [hg] at hc
    obtain ⟨f1, f2, f3, f4⟩ := fin none hc
    exact ⟨by rw [f1]; exact hi, by rw [f1]; exact hk, f3, f4, .inl ⟨rfl, f2⟩⟩
  | some jw =>
    obtain ⟨j, w⟩ := jw
    rw [hg] at hc
    obtain ⟨q, hq, hc⟩ := bind_some hc
    obtain ⟨d, hd, hc⟩ := bind_some hc
    obtain ⟨f1, f2, f3, f4⟩ := fin _ hc
    exact ⟨by rw [f1]; exact hi, by rw [f1]; exact hk, f3, f4, .inr ⟨j, w, q, d, rfl, hq, hd, f2⟩⟩

theorem cGIs_cons {n : Nat} {all : List Oper} {os : List Oper} {gi : GI} {l : List GI} (hc : cGIs Pr n all os = some (gi :: l)) : ∃ o r, os = o :: r ∧ cGI Pr n all o = some gi ∧ cGIs Pr n all r = some l := by
  cases os with
  | nil => cases hc
  | cons o r =>
    simp only [cGIs] at hc
    cases h1 : cGI Pr n all o with
    | none => rw [h1] at hc; cases hc
    | some a =>
      cases h2 : cGIs Pr n all r with
      | none => rw [h1, h2] at hc; cases hc
      | some b => rw [h1, h2] at hc; cases hc; exact ⟨o, r, rfl, h1, h2⟩

theorem cGIs_nil {n : Nat} {all : List Oper} {os : List Oper} (hc : cGIs Pr n all os = some []) : os = [] := by
  cases os with
  | nil => rfl
  | cons o r =>
    simp only [cGIs] at hc
    cases h1 : cGI Pr n all o with
    | none => rw [h1] at hc; cases hc
    | some a =>
      cases h2 : cGIs Pr n all r with
      | none => rw [h1, h2] at hc; cases hc
      | some b => rw [h1, h2] at hc; cases hc

theorem cGIs_get {n : Nat} {all : List Oper} : ∀ {os : List Oper} {l : List GI}, cGIs Pr n all os = some l → ∀ (i : Nat) (o : Oper), os[i]? = some o → ∃ g, l[i]? = some g ∧ cGI Pr n all o = some g
  | [], _, _, i, o, h => by simp at h
  | x :: os, [], hc, i, o, h => by cases cGIs_nil hc
  | x :: os, g :: l, hc, i, o, h => by
    obtain ⟨o', r, e, h1, h2⟩ := cGIs_cons hc
    cases e
    cases i with
    | zero => simp at h; subst h; exact ⟨g, rfl, h1⟩
    | succ i =>
      obtain ⟨g', k1, k2⟩ := cGIs_get h2 i o (by simpa using h)
      exact ⟨g', by simpa using k1, k2⟩
end

section
variable {tm tm' : T AV} {h : AH}

theorem madeOf_same {i : Ins} (k : Same tm tm' (insRd i)) : madeOf tm i = madeOf tm' i := by
  cases i with
  | box x => simp only [madeOf, opd_same (show Same tm tm' (rdO x) from k)]
  | mkmr x => simp only [madeOf, opd_same (show Same tm tm' (rdO x) from k)]
  | bsl z n ps => simp only [madeOf, fillL_same k]
  | mks z a b => simp only [madeOf, opd_same (Same.left k), opd_same (Same.right k)]
  | _ => rfl

theorem pure_heap {h' : AH} {i : Ins} (hc : clI i = .pure) : ins1 tm h i = ins1 tm h' i := by
  cases i <;> first | (cases hc; done) | rfl

theorem want_same {g : GI} (k : Same tm tm' (giRd g)) : want tm g.g = want tm' g.g := by
  obtain ⟨gd, d, i⟩ := g
  cases gd with
  | none => rfl
  | some q =>
    obtain ⟨p, b⟩ := q
    have : T.get undefA p tm = T.get undefA p tm' := k p (by simp [giRd])
    show want1 tm (p, b) = want1 tm' (p, b)
    simp only [want1, this]

/-- another heap, that holds what this one holds -/
theorem look_heap {h' : AH} (hk : ∀ p, h.get p ≠ .none → h'.get p = h.get p) {i : Ins} (hc : clI i = .look) {a : AV} (hi : ins1 tm h i = .v a) : ins1 tm h' i = .v a := by
  have hel : ∀ sz n x l, elems h sz n x = some l → elems h' sz n x = some l := by
    intro sz n x l hx
    cases x with
    | sl b alt off len c =>
      simp only [elems] at hx ⊢
      have : h.get b ≠ .none := by intro e; rw [e] at hx; cases hx
      rw [hk b this]; exact hx
    | _ => exact hx
  have hen : ∀ x l, entries h x = some l → entries h' x = some l := by
    intro x l hx
    cases x with
    | map b =>
      simp only [entries] at hx ⊢
      have : h.get b ≠ .none := by intro e; rw [e] at hx; cases hx
      rw [hk b this]; exact hx
    | _ => exact hx
  cases i <;> first | (cases hc; done) | skip
  all_goals simp only [ins1] at hi ⊢
  · -- ld1
    rename_i x
    generalize opd tm x = y at hi ⊢
    cases y with
    | ptr b off =>
      simp only [iLd1] at hi ⊢
      have : h.get b ≠ .none := by intro e; rw [e] at hi; cases hi
      rw [hk b this]; exact hi
    | _ => exact hi
  · -- ldn
    rename_i n x
    generalize opd tm x = y at hi ⊢
    cases y with
    | ptr b off =>
      simp only [iLdn] at hi ⊢
      have : h.get b ≠ .none := by intro e; rw [e] at hi; cases hi
      rw [hk b this]; exact hi
    | _ => exact hi
  · -- cvb
    rename_i x
    generalize opd tm x = y at hi ⊢
    cases y with
    | sl b alt off len c =>
      simp only [iCvb] at hi ⊢
      cases he : elems h 1 len (.sl b alt off len c) with
      | none => rw [he] at hi; cases hi
      | some l => rw [hel _ _ _ _ he]; rw [he] at hi; exact hi
    | _ => exact hi
  · -- lk
    rename_i g z ok m k
    unfold iLk at hi ⊢
    generalize keyOk g (opd tm k) = kk at hi ⊢
    cases kk with
    | false => cases hi
    | true =>
      simp only [Bool.not_true, cond_false] at hi ⊢
      cases he : entries h (opd tm m) with
      | none => rw [he] at hi; cases hi
      | some l => rw [hen _ _ he]; rw [he] at hi; exact hi
  · -- en
    rename_i x
    generalize opd tm x = y at hi ⊢
    cases y with
    | ptr b off =>
      cases off with
      | succ off => exact hi
      | zero =>
        simp only [iEn] at hi ⊢
        have h1 : h.get b ≠ .none := by intro e; rw [e] at hi; cases hi
        rw [hk b h1]
        cases hb : h.get b with
        | mapIter m since seen st =>
          rw [hb] at hi
          cases m with
          | none => exact hi
          | some m =>
            simp only at hi ⊢
            have h2 : h.get m ≠ .none := by intro e; rw [e] at hi; cases hi
            rw [hk m h2]; exact hi
        | _ => rw [hb] at hi; exact hi
    | _ => exact hi
  · -- lenM
    rename_i x
    unfold iLenM at hi ⊢
    cases he : entries h (opd tm x) with
    | none => rw [he] at hi; cases hi
    | some l => rw [hen _ _ he]; rw [he] at hi; exact hi

theorem get_putD {p : P} {a : AV} {d : Option P} : T.get undefA p (putD tm a d) = if d = some p then a else T.get undefA p tm := by
  cases d with
  | none => show T.get undefA p tm = _; simp
  | some q =>
    show T.get undefA p (T.put undefA a q tm) = _
    rw [T.get_put]
    by_cases hq : p = q
    · subst hq; simp
    · have : ¬ (some q = some p) := fun e => hq (Option.some.inj e).symm
      simp [hq, this]
end

theorem clO_spec {o : Oper} {i : Ins} (h : clO o i ≠ .acts) : clI i = clO o i ∧ (clO o i = .made → madeOp o.op = true) := by
  have e : clO o i = .acts ∨ (clO o i = clI i ∧ (clI i == Cl.made && !madeOp o.op) = false) := by
    unfold clO
    split
    · exact .inl rfl
    · split
      · exact .inl rfl
      · rename_i hh
        exact .inr ⟨rfl, by simpa using hh⟩
  rcases e with e | ⟨e1, e2⟩
  · exact absurd e h
  · refine ⟨e1.symm, fun hm => ?_⟩
    rw [e1] at hm
    rw [hm] at e2
    simpa using e2

/-- a region that draws its order, as it was compiled -/
structure DC (Pr : Program) (n : Nat) (rs : List Nat) (ops : Array Oper) (gis : List GI) (cl : List Cl) (an : List Nat) : Prop where
  gs : cGIs Pr n ops.toList ops.toList = some gis
  cle : cl = cls ops.toList gis
  ane : an = ancL ops.toList []
  reg : regOk ops.toList cl an = true
  dst : (gis.zipIdx.all fun (g, i) => dstOkG gis an i g (cl.getD i .acts)) = true
  res : noRes rs ops.toList cl = true

section
variable {Pr : Program} {n : Nat} {rs : List Nat} {ops : Array Oper} {gis : List GI} {cl : List Cl} {an : List Nat}

theorem DC.rank (k : DC Pr n rs ops gis cl an) : rankOk .any ops.toList (List.range ops.toList.length) = true := by
  have := k.reg
  simp only [regOk, Bool.and_eq_true] at this
  exact this.1.1.1

theorem DC.at' (k : DC Pr n rs ops gis cl an) {i : Nat} {o : Oper} (ho : ops[i]? = some o) : ∃ g, gis[i]? = some g ∧ cGI Pr n ops.toList o = some g ∧ cl.getD i .acts = clO o g.ins := by
  obtain ⟨g, h1, h2⟩ := cGIs_get k.gs i o (by simpa using ho)
  refine ⟨g, h1, h2, ?_⟩
  rw [k.cle]
  have hz : (ops.toList.zip gis)[i]? = some (o, g) := List.getElem?_zip_eq_some.2 ⟨by simpa using ho, h1⟩
  simp [cls, List.getD_eq_getElem?_getD, List.getElem?_map, hz]

theorem DC.lt {i : Nat} {o : Oper} (ho : ops[i]? = some o) : i < ops.size := by
  rcases Nat.lt_or_ge i ops.size with h | h
  · exact h
  · rw [Array.getElem?_eq_none h] at ho; cases ho

theorem DC.ex {i : Nat} (hi : i < ops.size) : ∃ o, ops[i]? = some o := ⟨ops[i], by simp [hi]⟩

theorem DC.dstO (k : DC Pr n rs ops gis cl an) {y : Nat} {o : Oper} {d : Nat} (ho : ops[y]? = some o) (hd : o.dst = some d) (hc : cl.getD y .acts ≠ .acts) :
    d ∉ reads ops.toList o ∧ ∀ i x, ops[i]? = some x → i ≠ y → d ∈ names ops.toList x → (an.getD i 0).testBit y = true := by
  have := k.reg
  simp only [regOk, Bool.and_eq_true] at this
  have hm : (o, y) ∈ ops.toList.zipIdx := by rw [List.mem_zipIdx_iff_getElem?]; simpa using ho
  have h1 := List.all_eq_true.1 this.2 _ hm
  simp only [dstOk, hd, Bool.and_eq_true, Bool.or_eq_true, beq_iff_eq, hc, false_or, Bool.not_eq_true', List.contains_eq_mem, decide_eq_false_iff_not] at h1
  refine ⟨h1.1, fun i x hx hiy hn => ?_⟩
  have hm2 : (x, i) ∈ ops.toList.zipIdx := by rw [List.mem_zipIdx_iff_getElem?]; simpa using hx
  have h2 := List.all_eq_true.1 h1.2 _ hm2
  simp only [Bool.or_eq_true, beq_iff_eq, Bool.not_eq_true', decide_eq_false_iff_not, Bool.and_eq_true] at h2
  rcases h2 with ((h2 | h2) | h2) | h2
  · exact absurd h2 hiy
  · exact absurd hn h2
  · exact h2
  · exact absurd h2.1 hc

theorem DC.dstG (k : DC Pr n rs ops gis cl an) {y : Nat} {g : GI} {d : P} (hg : gis[y]? = some g) (hd : g.d = some d) :
    (cl.getD y .acts ≠ .acts → d ∉ giRd g) ∧ ∀ i x, gis[i]? = some x → i ≠ y → d ∈ giNm x → (an.getD i 0).testBit y = true ∨ (cl.getD y .acts = .acts ∧ (an.getD y 0).testBit i = true) := by
  have hm : (g, y) ∈ gis.zipIdx := by rw [List.mem_zipIdx_iff_getElem?]; exact hg
  have h1 := List.all_eq_true.1 k.dst _ hm
  simp only [dstOkG, hd, Bool.and_eq_true, Bool.or_eq_true, beq_iff_eq, Bool.not_eq_true', List.contains_eq_mem, decide_eq_false_iff_not] at h1
  refine ⟨fun hc => h1.1.resolve_left hc, fun i x hx hiy hn => ?_⟩
  have hm2 : (x, i) ∈ gis.zipIdx := by rw [List.mem_zipIdx_iff_getElem?]; exact hx
  have h2 := List.all_eq_true.1 h1.2 _ hm2
  simp only [Bool.or_eq_true, beq_iff_eq, Bool.not_eq_true', decide_eq_false_iff_not, Bool.and_eq_true] at h2
  rcases h2 with ((h2 | h2) | h2) | h2
  · exact absurd h2 hiy
  · exact absurd hn h2
  · exact .inl h2
  · exact .inr h2

/-- all that an operation is bound to has been done, if its edges' ends have -/
theorem DC.ancA (k : DC Pr n rs ops gis cl an) {A : Nat → Bool} (cA : Closed ops.toList A) {i : Nat} {o : Oper} (ho : ops[i]? = some o) (hb : ∀ e ∈ o.after.toList, Region.binds .any e = true → A e.on = true) {j : Nat} (hj : (an.getD i 0).testBit j = true) : A j = true := by
  rw [k.ane] at hj
  obtain ⟨e, h1, h2, h3⟩ := anc_bit k.rank (by simpa using ho) hj
  have hA := hb e h1 h2
  rcases h3 with rfl | h3
  · exact hA
  · exact cA e.on (rankOk_spec k.rank (by simpa using ho) h1 h2).1 hA j h3
end

def dRead (tm : T AV) (d : Option P) (a : AV) : Prop := ∀ p, d = some p → T.get undefA p tm = a

/-- what an operation that is wanted will give is what its temporary holds -/
def Prm (ρ : En) (h : AH) (lo hi : Nat) (tm : T AV) (c : Cl) (g : GI) (p : P) : Prop :=
  (c = .made → ∃ o mk, madeOf tm g.ins = some (o, mk) ∧ ρ p = none ∧ (lo ≤ p.toNat ∧ p.toNat < hi) ∧ (h.get p = o ∨ h.get p = .none) ∧ dRead tm g.d (mk p)) ∧
  (c ≠ .made → ∃ a, ins1 tm h g.ins = .v a ∧ dRead tm g.d a)

theorem Same.rd {tm tm' : T AV} {g : GI} (k : Same tm tm' (giNm g)) : Same tm tm' (giRd g) := Same.left k
theorem Same.ins {tm tm' : T AV} {g : GI} (k : Same tm tm' (giNm g)) : Same tm tm' (insRd g.ins) := Same.left (Same.left k)
theorem Same.d {tm tm' : T AV} {g : GI} (k : Same tm tm' (giNm g)) {a : AV} (hr : dRead tm g.d a) : dRead tm' g.d a := by
  intro p hp
  rw [← hr p hp]
  refine (k p (List.mem_append_right _ ?_)).symm
  rw [hp]; simp

theorem Prm.same {ρ : En} {h : AH} {lo hi : Nat} {tm tm' : T AV} {c : Cl} {g : GI} {p : P} (k : Same tm tm' (giNm g)) (x : Prm ρ h lo hi tm c g p) : Prm ρ h lo hi tm' c g p := by
  refine ⟨fun hc => ?_, fun hc => ?_⟩
  · obtain ⟨o, mk, h1, h2, h3, h4, h5⟩ := x.1 hc
    exact ⟨o, mk, by rw [← madeOf_same k.ins]; exact h1, h2, h3, h4, k.d h5⟩
  · obtain ⟨a, h1, h2⟩ := x.2 hc
    exact ⟨a, by rw [← ins1_same k.ins]; exact h1, k.d h2⟩

/-- done by the interpreter, not yet by the machine -/
def Opn (ops : Array Oper) (A : Nat → Bool) (dn i : Nat) : Prop := i < ops.size ∧ dn.testBit i = true ∧ A i = false

structure Dr (Pr : Program) (ρ : En) (h : AH) (lo hi : Nat) (n : Nat) (rs : List Nat) (ops : Array Oper) (gis : List GI) (cl : List Cl) (an : List Nat) (A : Nat → Bool) (dn op gd : Nat) (pth : Nat → P) (tm : T AV) (tmps : Array Value) : Prop where
  dc : DC Pr n rs ops gis cl an
  size : n ≤ tmps.size
  cA : Closed ops.toList A
  cD : Closed ops.toList dn.testBit
  sub : ∀ i, i < ops.size → A i = true → dn.testBit i = true
  opn : ∀ i, Opn ops A dn i → op.testBit i = true ∧ cl.getD i .acts ≠ .acts
  tms : ∀ t, (∃ i o, Opn ops A dn i ∧ ops[i]? = some o ∧ o.dst = some t) ∨ V Pr ρ (T.get undefA (P.slot t) tm) (tmps.getD t undef)
  unw : ∀ i g, Opn ops A dn i → gis[i]? = some g → want tm g.g = false → dRead tm g.d undefA
  prom : ∀ i g, Opn ops A dn i → gd.testBit i = true → gis[i]? = some g → want tm g.g = true → Prm ρ h lo hi tm (cl.getD i .acts) g (pth i)
  inj : ∀ i j gi gj, Opn ops A dn i → Opn ops A dn j → gd.testBit i = true → gd.testBit j = true → gis[i]? = some gi → gis[j]? = some gj → cl.getD i .acts = .made → cl.getD j .acts = .made →
    want tm gi.g = true → want tm gj.g = true → i ≠ j → pth i ≠ pth j

section
variable {Pr : Program} {ρ ρ' : En} {h h' : AH} {lo hi hi' : Nat} {n : Nat} {rs : List Nat} {ops : Array Oper} {gis : List GI} {cl : List Cl} {an : List Nat} {A : Nat → Bool} {dn op gd : Nat} {pth : Nat → P} {tm : T AV} {tmps : Array Value}

theorem Dr.start (dc : DC Pr n rs ops gis cl an) (t : TM Pr ρ n tm tmps) : Dr Pr ρ h lo hi n rs ops gis cl an (fun i => !decide (i < ops.size)) 0 0 0 pth tm tmps := by
  have no : ∀ i, ¬ Opn ops (fun i => !decide (i < ops.size)) 0 i := by
    intro i hi
    have := hi.2.1
    simp at this
  refine ⟨dc, t.1, ?_, ?_, ?_, fun i hi => absurd hi (no i), fun t' => .inr (t.2 t'), fun i _ hi => absurd hi (no i), fun i _ hi => absurd hi (no i), fun i _ _ _ hi => absurd hi (no i)⟩
  · intro i hi hA
    simp at hA hi
    omega
  · intro i _ hd
    simp at hd
  · intro i hi hA
    simp at hA
    omega

/-- an operation's operands, and what its guard reads, stand -/
theorem Dr.opnd (k : Dr Pr ρ h lo hi n rs ops gis cl an A dn op gd pth tm tmps) {i : Nat} {o : Oper} (ho : ops[i]? = some o) (hA : ∀ j, (an.getD i 0).testBit j = true → A j = true) {t : Nat} (ht : t ∈ reads ops.toList o) :
    V Pr ρ (T.get undefA (P.slot t) tm) (tmps.getD t undef) := by
  rcases k.tms t with ⟨x, ox, hx, hox, hd⟩ | hv
  · obtain ⟨_, hc⟩ := k.opn x hx
    obtain ⟨d1, d2⟩ := k.dc.dstO hox hd hc
    by_cases hxi : i = x
    · subst hxi
      rw [hox] at ho; cases ho
      exact absurd ht d1
    · have := hA x (d2 i o ho hxi (List.mem_append_right _ ht))
      rw [hx.2.2] at this; cases this
  · exact hv

/-- a result's temporary stands -/
theorem Dr.resV (k : Dr Pr ρ h lo hi n rs ops gis cl an A dn op gd pth tm tmps) {t : Nat} (ht : t ∈ rs) : V Pr ρ (T.get undefA (P.slot t) tm) (tmps.getD t undef) := by
  rcases k.tms t with ⟨x, ox, hx, hox, hd⟩ | hv
  · obtain ⟨_, hc⟩ := k.opn x hx
    obtain ⟨g, h1, h2, h3⟩ := k.dc.at' hox
    have hr := k.dc.res
    simp only [noRes] at hr
    have hz : (ops.toList.zip cl)[x]? = some (ox, cl.getD x .acts) := by
      refine List.getElem?_zip_eq_some.2 ⟨by simpa using hox, ?_⟩
      rw [k.dc.cle]
      have hz : (ops.toList.zip gis)[x]? = some (ox, g) := List.getElem?_zip_eq_some.2 ⟨by simpa using hox, h1⟩
      simp [cls, List.getD_eq_getElem?_getD, List.getElem?_map, hz]
    have := List.all_eq_true.1 hr _ (List.mem_of_getElem? hz)
    simp only [hd, Bool.or_eq_true, beq_iff_eq, hc, false_or, Bool.not_eq_true', List.contains_eq_mem, decide_eq_false_iff_not] at this
    exact absurd ht this
  · exact hv

/-- what writes a temporary writes none that an open operation names -/
theorem Dr.same (k : Dr Pr ρ h lo hi n rs ops gis cl an A dn op gd pth tm tmps) {i : Nat} {g : GI} (hg : gis[i]? = some g) (hd : dn.testBit i = false) (hA : cl.getD i .acts = .acts → ∀ j, (an.getD i 0).testBit j = true → A j = true)
    {j : Nat} {gj : GI} (hj : Opn ops A dn j) (hgj : gis[j]? = some gj) (a : AV) : Same tm (putD tm a g.d) (giNm gj) := by
  intro p hp
  rw [get_putD]
  by_cases he : g.d = some p
  · rcases (k.dc.dstG hg he).2 j gj hgj (fun e => by subst e; rw [hj.2.1] at hd; cases hd) hp with h1 | ⟨h1, h2⟩
    · have := k.cD j (by simpa using hj.1) hj.2.1 i (by rw [← k.dc.ane]; exact h1)
      rw [hd] at this; cases this
    · have := hA h1 j h2
      rw [hj.2.2] at this; cases this
  · simp [he]

theorem Opn.less {A' : Nat → Bool} {dn' i j : Nat} (hj : Opn ops A' dn' j) (hA : ∀ j, A' j = false → A j = false) (hd : dn' = dn ||| 2 ^ i) : Opn ops A dn j ∨ (j = i ∧ A j = false) := by
  obtain ⟨h1, h2, h3⟩ := hj
  rw [hd, testBit_or_pow] at h2
  simp only [Bool.or_eq_true, decide_eq_true_eq] at h2
  rcases h2 with h2 | h2
  · exact .inl ⟨h1, h2, hA j h3⟩
  · exact .inr ⟨h2, hA j h3⟩

theorem DC.add (dc : DC Pr n rs ops gis cl an) (cD : Closed ops.toList dn.testBit) {i : Nat} (ha : subB (an.getD i 0) dn = true) : Closed ops.toList (dn ||| 2 ^ i).testBit := by
  intro x hx hA j hj
  rw [testBit_or_pow] at hA ⊢
  simp only [Bool.or_eq_true, decide_eq_true_eq] at hA ⊢
  rcases hA with hA | rfl
  · exact .inl (cD x hx hA j hj)
  · exact .inl (subB_spec ha (by rw [dc.ane]; exact hj))

/-- the interpreter does an operation that does not act; the machine stands -/
theorem Dr.put (k : Dr Pr ρ h lo hi n rs ops gis cl an A dn op gd pth tm tmps) {i : Nat} {g : GI} (hlt : i < ops.size) (hg : gis[i]? = some g) (hd : dn.testBit i = false) (ha : subB (an.getD i 0) dn = true) (hc : cl.getD i .acts ≠ .acts)
    {a : AV} {pth' : Nat → P} (hp : ∀ j, j ≠ i → pth' j = pth j)
    (hh : ∀ j gj, Opn ops A dn j → gis[j]? = some gj → Prm ρ h lo hi tm (cl.getD j .acts) gj (pth j) → Prm ρ h' lo hi' tm (cl.getD j .acts) gj (pth j))
    (hu : want tm g.g = false → a = undefA) (hw : want tm g.g = true → Prm ρ h' lo hi' (putD tm a g.d) (cl.getD i .acts) g (pth' i))
    (hj : want tm g.g = true → cl.getD i .acts = .made → ∀ j gj, Opn ops A dn j → gis[j]? = some gj → cl.getD j .acts = .made → Prm ρ h lo hi tm (cl.getD j .acts) gj (pth j) → pth j ≠ pth' i) :
    Dr Pr ρ h' lo hi' n rs ops gis cl an A (dn ||| 2 ^ i) (op ||| 2 ^ i) (gd ||| 2 ^ i) pth' (putD tm a g.d) tmps := by
  have sm : ∀ {j gj}, Opn ops A dn j → gis[j]? = some gj → Same tm (putD tm a g.d) (giNm gj) := fun hj hgj => k.same hg hd (fun hc' => absurd hc' hc) hj hgj a
  have smi : Same tm (putD tm a g.d) (giRd g) := by
    intro p hp
    rw [get_putD]
    by_cases he : g.d = some p
    · exact absurd hp ((k.dc.dstG hg he).1 hc)
    · simp [he]
  have hAi : A i = false := by
    cases hA : A i with
    | false => rfl
    | true => rw [k.sub i hlt hA] at hd; cases hd
  have old : ∀ {j}, Opn ops A (dn ||| 2 ^ i) j → j ≠ i → Opn ops A dn j := fun hj hne => (hj.less (A := A) (fun _ x => x) rfl).resolve_right (fun e => hne e.1)
  have gdo : ∀ {j}, j ≠ i → (gd ||| 2 ^ i).testBit j = true → gd.testBit j = true := by
    intro j hne hb
    rw [testBit_or_pow] at hb
    simpa [hne] using hb
  have pr : ∀ {j gj}, Opn ops A (dn ||| 2 ^ i) j → j ≠ i → (gd ||| 2 ^ i).testBit j = true → gis[j]? = some gj → want (putD tm a g.d) gj.g = true → Prm ρ h lo hi tm (cl.getD j .acts) gj (pth j) := by
    intro j gj hj hne hb hgj hwj
    have ho := old hj hne
    exact k.prom j gj ho (gdo hne hb) hgj (by rw [want_same (sm ho hgj).rd]; exact hwj)
  refine ⟨k.dc, k.size, k.cA, k.dc.add k.cD ha, fun j hj' hA => ?_, fun j hj' => ?_, fun t => ?_, fun j gj hj' hgj hwj => ?_, fun j gj hj' hb hgj hwj => ?_, fun x y gx gy hx hy bx by' hgx hgy cx cy wx wy hne => ?_⟩
  · rw [testBit_or_pow, k.sub j hj' hA]; rfl
  · rw [testBit_or_pow]
    by_cases hne : j = i
    · subst hne; exact ⟨by simp, hc⟩
    · obtain ⟨h1, h2⟩ := k.opn j (old hj' hne)
      exact ⟨by rw [h1]; rfl, h2⟩
  · obtain ⟨oi, hoi⟩ := DC.ex hlt
    obtain ⟨g', e1, e2, _⟩ := k.dc.at' hoi
    rw [hg] at e1; cases e1
    by_cases ht : oi.dst = some t
    · exact .inl ⟨i, oi, ⟨hlt, by rw [testBit_or_pow]; simp, hAi⟩, hoi, ht⟩
    · rcases k.tms t with ⟨x, ox, hx, hox, hdx⟩ | hv
      · refine .inl ⟨x, ox, ⟨hx.1, ?_, hx.2.2⟩, hox, hdx⟩
        rw [testBit_or_pow, hx.2.1]; rfl
      · refine .inr ?_
        rw [get_putD]
        obtain ⟨_, _, c3, _⟩ := cGI_spec e2
        have : ¬ g.d = some (P.slot t) := by
          rw [c3]
          intro e
          cases hdo : oi.dst with
          | none => rw [hdo] at e; cases e
          | some d =>
            rw [hdo] at e
            have := P.slot_inj (Option.some.inj e)
            exact ht (by rw [hdo, this])
        simpa [this] using hv
  · by_cases hne : j = i
    · subst hne
      rw [hg] at hgj; cases hgj
      rw [← want_same smi] at hwj
      intro p hp'
      rw [get_putD, hp', hu hwj]; simp
    · have ho := old hj' hne
      exact (sm ho hgj).d (k.unw j gj ho hgj (by rw [want_same (sm ho hgj).rd]; exact hwj))
  · by_cases hne : j = i
    · subst hne
      rw [hg] at hgj; cases hgj
      rw [← want_same smi] at hwj
      exact hw hwj
    · have ho := old hj' hne
      rw [hp j hne]
      exact Prm.same (sm ho hgj) (hh j gj ho hgj (pr hj' hne hb hgj hwj))
  · by_cases hxi : x = i
    · subst hxi
      have hyi : y ≠ x := fun e => hne e.symm
      rw [hg] at hgx; cases hgx
      rw [← want_same smi] at wx
      rw [hp y hyi]
      exact fun e => hj wx cx y gy (old hy hyi) hgy cy (pr hy hyi by' hgy wy) e.symm
    · by_cases hyi : y = i
      · subst hyi
        rw [hg] at hgy; cases hgy
        rw [← want_same smi] at wy
        rw [hp x hxi]
        exact hj wy cy x gx (old hx hxi) hgx cx (pr hx hxi bx hgx wx)
      · rw [hp x hxi, hp y hyi]
        have ox := old hx hxi
        have oy := old hy hyi
        exact k.inj x y gx gy ox oy (gdo hxi bx) (gdo hyi by') hgx hgy cx cy (by rw [want_same (sm ox hgx).rd]; exact wx) (by rw [want_same (sm oy hgy).rd]; exact wy) hne

/-- a look that is looked at again -/
theorem Dr.ck (k : Dr Pr ρ h lo hi n rs ops gis cl an A dn op gd pth tm tmps) {i : Nat} {g : GI} (hg : gis[i]? = some g) (hw : want tm g.g = true → Opn ops A dn i → cl.getD i .acts ≠ .made ∧ Prm ρ h lo hi tm (cl.getD i .acts) g (pth i)) :
    Dr Pr ρ h lo hi n rs ops gis cl an A dn op (gd ||| 2 ^ i) pth tm tmps := by
  have gdo : ∀ {j}, j ≠ i → (gd ||| 2 ^ i).testBit j = true → gd.testBit j = true := by
    intro j hne hb
    rw [testBit_or_pow] at hb
    simpa [hne] using hb
  refine ⟨k.dc, k.size, k.cA, k.cD, k.sub, k.opn, k.tms, k.unw, fun j gj hj hb hgj hwj => ?_, fun x y gx gy hx hy bx by' hgx hgy cx cy wx wy hne => ?_⟩
  · by_cases hne : j = i
    · subst hne
      rw [hg] at hgj; cases hgj
      exact (hw hwj hj).2
    · exact k.prom j gj hj (gdo hne hb) hgj hwj
  · by_cases hxi : x = i
    · subst hxi; rw [hg] at hgx; cases hgx
      exact absurd cx (hw wx hx).1
    · by_cases hyi : y = i
      · subst hyi; rw [hg] at hgy; cases hgy
        exact absurd cy (hw wy hy).1
      · exact k.inj x y gx gy hx hy (gdo hxi bx) (gdo hyi by') hgx hgy cx cy wx wy hne

/-- the machine does an open operation -/
theorem Dr.mach (k : Dr Pr ρ h lo hi n rs ops gis cl an A dn op gd pth tm tmps) {i : Nat} {o : Oper} (ho : ops[i]? = some o) (hO : Opn ops A dn i) (hb : ∀ e ∈ o.after.toList, Region.binds .any e = true → A e.on = true) (x : Ext ρ ρ')
    (hm : ∀ j gj, Opn ops A dn j → j ≠ i → gd.testBit j = true → gis[j]? = some gj → cl.getD j .acts = .made → want tm gj.g = true → ρ (pth j) = none → ρ' (pth j) = none) {v : Value} (hv : ∀ d, o.dst = some d → V Pr ρ' (T.get undefA (P.slot d) tm) v) :
    Dr Pr ρ' h lo hi n rs ops gis cl an (fun j => j == i || A j) dn op gd pth tm (match o.dst with | some d => tmps.setIfInBounds d v | none => tmps) := by
  have less : ∀ {j}, Opn ops (fun j => j == i || A j) dn j → Opn ops A dn j ∧ j ≠ i := by
    intro j hj
    obtain ⟨h1, h2, h3⟩ := hj
    simp only [Bool.or_eq_false_iff, beq_eq_false_iff_ne] at h3
    exact ⟨⟨h1, h2, h3.2⟩, h3.1⟩
  obtain ⟨g, e1, e2, _⟩ := k.dc.at' ho
  obtain ⟨_, _, _, c4, _⟩ := cGI_spec e2
  refine ⟨k.dc, ?_, k.cA.add k.dc.rank (by simpa using ho) hb, k.cD, fun j hj hA => ?_, fun j hj => k.opn j (less hj).1, fun t => ?_, fun j gj hj => k.unw j gj (less hj).1, fun j gj hj hb' hgj hwj => ?_,
    fun a b ga gb ha hb' => k.inj a b ga gb (less ha).1 (less hb').1⟩
  · cases o.dst with
    | none => exact k.size
    | some d => simpa using k.size
  · simp only [Bool.or_eq_true, beq_iff_eq] at hA
    rcases hA with rfl | hA
    · exact hO.2.1
    · exact k.sub j hj hA
  · by_cases ht : o.dst = some t
    · refine .inr ?_
      rw [ht]
      have hlt : t < tmps.size := Nat.lt_of_lt_of_le (c4 t ht) k.size
      simpa [hlt] using hv t ht
    · have same : (match o.dst with | some d => tmps.setIfInBounds d v | none => tmps).getD t undef = tmps.getD t undef := by
        cases hd : o.dst with
        | none => rfl
        | some d =>
          have hne : d ≠ t := fun e => ht (by rw [hd, e])
          simp [Array.getD_eq_getD_getElem?, Array.getElem?_setIfInBounds_ne hne]
      rw [same]
      rcases k.tms t with ⟨y, oy, hy, hoy, hdy⟩ | hv'
      · have hyi : y ≠ i := fun e => by subst e; rw [ho] at hoy; cases hoy; exact ht hdy
        refine .inl ⟨y, oy, ⟨hy.1, hy.2.1, ?_⟩, hoy, hdy⟩
        simp [hyi, hy.2.2]
      · exact .inr (hv'.mono x)
  · obtain ⟨ho', hne⟩ := less hj
    have hp := k.prom j gj ho' hb' hgj hwj
    refine ⟨fun hc => ?_, hp.2⟩
    obtain ⟨ob, mk, h1, h2, h3⟩ := hp.1 hc
    exact ⟨ob, mk, h1, hm j gj ho' hne hb' hgj hc hwj h2, h3⟩

/-- ahead of an act: the machine has done what the act is bound to; what looks loses its promise -/
theorem Dr.arrive (k : Dr Pr ρ h lo hi n rs ops gis cl an A dn op gd pth tm tmps) {i : Nat} (hA : ∀ j, (an.getD i 0).testBit j = true → A j = true) (hs : subB op gd = true) {m : Nat} :
    Dr Pr ρ h lo hi n rs ops gis cl an A dn (op ^^^ (op &&& an.getD i 0)) ((List.range m).foldl (fun s x => if (op ^^^ (op &&& an.getD i 0)).testBit x && cl.getD x .acts != Cl.look then s ||| 2 ^ x else s) 0) pth tm tmps ∧
    ∀ j, ((List.range m).foldl (fun s x => if (op ^^^ (op &&& an.getD i 0)).testBit x && cl.getD x .acts != Cl.look then s ||| 2 ^ x else s) 0).testBit j = true → cl.getD j .acts ≠ .look := by
  have hb : ∀ j, ((List.range m).foldl (fun s x => if (op ^^^ (op &&& an.getD i 0)).testBit x && cl.getD x .acts != Cl.look then s ||| 2 ^ x else s) 0).testBit j = true → op.testBit j = true ∧ cl.getD j .acts ≠ .look := by
    intro j hj
    rcases testBit_foldOr (fun x => (op ^^^ (op &&& an.getD i 0)).testBit x && cl.getD x .acts != Cl.look) j _ _ hj with h0 | ⟨_, h1⟩
    · simp at h0
    · simp only [Bool.and_eq_true, bne_iff_ne, testBit_less] at h1
      exact ⟨h1.1.1, h1.2⟩
  have hg : ∀ j, ((List.range m).foldl (fun s x => if (op ^^^ (op &&& an.getD i 0)).testBit x && cl.getD x .acts != Cl.look then s ||| 2 ^ x else s) 0).testBit j = true → gd.testBit j = true := fun j hj => subB_spec hs (hb j hj).1
  refine ⟨⟨k.dc, k.size, k.cA, k.cD, k.sub, fun j hj => ?_, k.tms, k.unw, fun j gj hj hb' hgj hwj => ?_, fun x y gx gy hx hy bx by' => ?_⟩, fun j hj => (hb j hj).2⟩
  · obtain ⟨h1, h2⟩ := k.opn j hj
    refine ⟨?_, h2⟩
    rw [testBit_less, h1]
    cases hbit : (an.getD i 0).testBit j with
    | false => rfl
    | true => have := hA j hbit; rw [hj.2.2] at this; cases this
  · exact k.prom j gj hj (hg j hb') hgj hwj
  · exact k.inj x y gx gy hx hy (hg x bx) (hg y by')

/-- what the machine has not made yet is as it was -/
def Kept (lo hi : Nat) (ρ ρ' : En) (h h' : AH) : Prop := ∀ p : P, lo ≤ p.toNat → p.toNat < hi → ρ p = none → ρ' p = none ∧ (h'.get p = h.get p ∨ h'.get p = .none)

theorem Prm.kept (dc : DC Pr n rs ops gis cl an) {j : Nat} {gj : GI} (hj : j < ops.size) (hgj : gis[j]? = some gj) (hc : cl.getD j .acts ≠ .look) (ha : cl.getD j .acts ≠ .acts) (kp : Kept lo hi ρ ρ' h h') (hh : hi ≤ hi') {p : P} (x : Prm ρ h lo hi tm (cl.getD j .acts) gj p) :
    Prm ρ' h' lo hi' tm (cl.getD j .acts) gj p := by
  refine ⟨fun hm => ?_, fun hm => ?_⟩
  · obtain ⟨o, mk, h1, h2, ⟨h3, h4⟩, h5, h6⟩ := x.1 hm
    obtain ⟨q1, q2⟩ := kp p h3 h4 h2
    exact ⟨o, mk, h1, q1, ⟨h3, Nat.lt_of_lt_of_le h4 hh⟩, q2.elim (fun q2 => by rw [q2]; exact h5) .inr, h6⟩
  · obtain ⟨o, ho⟩ := DC.ex hj
    obtain ⟨g, h1, h2, h3⟩ := dc.at' ho
    rw [hgj] at h1; cases h1
    have hp : cl.getD j .acts = .pure := by
      cases hcc : cl.getD j .acts with
      | pure => rfl
      | look => exact absurd hcc hc
      | made => exact absurd hcc hm
      | acts => exact absurd hcc ha
    have hcl : clI gj.ins = .pure := by
      have := (clO_spec (o := o) (i := gj.ins) (by rw [← h3]; exact ha)).1
      rw [this, ← h3, hp]
    obtain ⟨a, g1, g2⟩ := x.2 hm
    exact ⟨a, by rw [← g1]; exact pure_heap hcl, g2⟩

theorem Dr.mono (k : Dr Pr ρ h lo hi n rs ops gis cl an A dn op gd pth tm tmps) (nl : ∀ j, gd.testBit j = true → cl.getD j .acts ≠ .look) (x : Ext ρ ρ') (kp : Kept lo hi ρ ρ' h h') (hh : hi ≤ hi') : Dr Pr ρ' h' lo hi' n rs ops gis cl an A dn op gd pth tm tmps := by
  refine ⟨k.dc, k.size, k.cA, k.cD, k.sub, k.opn, fun t => (k.tms t).imp id fun hv => hv.mono x, k.unw, fun j gj hj hb hgj hwj => ?_, k.inj⟩
  exact (k.prom j gj hj hb hgj hwj).kept k.dc hj.1 hgj (nl j hb) (k.opn j hj).2 kp hh

/-- an act has been done, by both -/
theorem Dr.done (k : Dr Pr ρ h lo hi n rs ops gis cl an A dn op gd pth tm tmps) (nl : ∀ j, gd.testBit j = true → cl.getD j .acts ≠ .look) {i : Nat} {o : Oper} {g : GI} (ho : ops[i]? = some o) (hg : gis[i]? = some g) (hd : dn.testBit i = false)
    (ha : subB (an.getD i 0) dn = true) (hb : ∀ e ∈ o.after.toList, Region.binds .any e = true → A e.on = true) (x : Ext ρ ρ') (kp : Kept lo hi ρ ρ' h h') (hh : hi ≤ hi') {a : AV} {v : Value} (hv : V Pr ρ' a v) :
    Dr Pr ρ' h' lo hi' n rs ops gis cl an (fun j => j == i || A j) (dn ||| 2 ^ i) op gd pth (putD tm a g.d) (match o.dst with | some d => tmps.setIfInBounds d v | none => tmps) := by
  have hA : ∀ j, (an.getD i 0).testBit j = true → A j = true := fun j hj => k.dc.ancA k.cA ho hb hj
  have less : ∀ {j}, Opn ops (fun j => j == i || A j) (dn ||| 2 ^ i) j → Opn ops A dn j ∧ j ≠ i := by
    intro j hj
    obtain ⟨h1, h2, h3⟩ := hj
    simp only [Bool.or_eq_false_iff, beq_eq_false_iff_ne] at h3
    rw [testBit_or_pow] at h2
    simp only [Bool.or_eq_true, decide_eq_true_eq] at h2
    exact ⟨⟨h1, h2.resolve_right h3.1, h3.2⟩, h3.1⟩
  have sm : ∀ {j gj}, Opn ops A dn j → gis[j]? = some gj → Same tm (putD tm a g.d) (giNm gj) := fun hj hgj => k.same hg hd (fun _ => hA) hj hgj a
  obtain ⟨g', e1, e2, _⟩ := k.dc.at' ho
  rw [hg] at e1; cases e1
  obtain ⟨_, _, c3, c4, _⟩ := cGI_spec e2
  refine ⟨k.dc, ?_, k.cA.add k.dc.rank (by simpa using ho) hb, k.dc.add k.cD ha, fun j hj hAj => ?_, fun j hj => k.opn j (less hj).1, fun t => ?_, fun j gj hj hgj hwj => ?_, fun j gj hj hb' hgj hwj => ?_,
    fun x y gx gy hx hy bx by' hgx hgy cx cy wx wy hne => ?_⟩
  · cases o.dst with
    | none => exact k.size
    | some d => simpa using k.size
  · rw [testBit_or_pow]
    simp only [Bool.or_eq_true, beq_iff_eq, decide_eq_true_eq] at hAj ⊢
    rcases hAj with rfl | hAj
    · exact .inr rfl
    · exact .inl (k.sub j hj hAj)
  · by_cases ht : o.dst = some t
    · refine .inr ?_
      rw [get_putD, c3, ht]
      have hlt : t < tmps.size := Nat.lt_of_lt_of_le (c4 t ht) k.size
      simpa [hlt] using hv
    · have same : (match o.dst with | some d => tmps.setIfInBounds d v | none => tmps).getD t undef = tmps.getD t undef := by
        cases hdo : o.dst with
        | none => rfl
        | some d =>
          have hne : d ≠ t := fun e => ht (by rw [hdo, e])
          simp [Array.getD_eq_getD_getElem?, Array.getElem?_setIfInBounds_ne hne]
      rw [same]
      rcases k.tms t with ⟨y, oy, hy, hoy, hdy⟩ | hv'
      · have hyi : y ≠ i := fun e => by subst e; rw [hy.2.1] at hd; cases hd
        refine .inl ⟨y, oy, ⟨hy.1, ?_, ?_⟩, hoy, hdy⟩
        · rw [testBit_or_pow, hy.2.1]; rfl
        · simp [hyi, hy.2.2]
      · refine .inr ?_
        rw [get_putD]
        have : ¬ g.d = some (P.slot t) := by
          rw [c3]
          intro e
          cases hdo : o.dst with
          | none => rw [hdo] at e; cases e
          | some d =>
            rw [hdo] at e
            have := P.slot_inj (Option.some.inj e)
            exact ht (by rw [hdo, this])
        simpa [this] using hv'.mono x
  · obtain ⟨ho', _⟩ := less hj
    exact (sm ho' hgj).d (k.unw j gj ho' hgj (by rw [want_same (sm ho' hgj).rd]; exact hwj))
  · obtain ⟨ho', _⟩ := less hj
    have hp := k.prom j gj ho' hb' hgj (by rw [want_same (sm ho' hgj).rd]; exact hwj)
    exact Prm.same (sm ho' hgj) (hp.kept k.dc ho'.1 hgj (nl j hb') (k.opn j ho').2 kp hh)
  · exact k.inj x y gx gy (less hx).1 (less hy).1 bx by' hgx hgy cx cy (by rw [want_same (sm (less hx).1 hgx).rd]; exact wx) (by rw [want_same (sm (less hy).1 hgy).rd]; exact wy) hne
end

theorem WR.later {Pr : Program} {B : Nat} {w0 w : World} {ρ : En} {h : AH} (hw : WR Pr B w0 ρ h w) (o : AObj) : WR Pr B w0 ρ (h.new o) w := by
  have hne : ∀ {q e}, ρ q = some e → q ≠ h.nxt := by
    intro q e hq hh
    subst hh
    rw [(hw.fresh _ (Nat.le_refl _)).1] at hq; cases hq
  have hget : ∀ {q e}, ρ q = some e → (h.new o).get q = h.get q := fun hq => by rw [AH.get_new]; simp [hne hq]
  refine ⟨hw.below, hw.base, fun p e hp => by rw [hget hp]; exact hw.obj p e hp, hw.bnd, fun p e hp ho => by rw [hget hp] at ho; exact hw.own p e hp ho, fun p q e e' hpq hp hq ho hl => ?_, fun p hp => ?_, hw.q0⟩
  · rw [hget hp] at ho; rw [hget hq] at hl
    exact hw.sep p q e e' hpq hp hq ho hl
  · rw [AH.nxt_new, P.toNat_succ] at hp
    have hne : p ≠ h.nxt := fun hh => by subst hh; omega
    obtain ⟨g1, g2⟩ := hw.fresh p (by omega)
    exact ⟨g1, by rw [AH.get_new]; simpa [hne] using g2⟩

end Go.Proofs.YtlklnffmhclioaaGreatDoor.Ev

