/- The variables that the row lists, as the interpreter's heap has them. -/
import Derived.Test.YtlklnffmhclioaaGreatDoorEvL
import Derived.Test.YtlklnffmhclioaaGreatDoorRows
import Derived.ProofKit
import Derived.LaidMore
import Derived.OpenShut
import Derived.Stop.Joined
import Derived.Shelf.Vars
namespace Go.Proofs.YtlklnffmhclioaaGreatDoor.Ev
open Go.RowKit

/-- the cell at a place, out of what a plain value reads as -/
noncomputable def cellAt (Pr : Program) : Nat → TypeId → DataW Unit → Nat → Option Value
  | 0, _, _, _ => none
  | f + 1, t, d, i => match Pr.underlying t with
    | some (.int _) => match d, i with
      | .lit (.int k n), 0 => some (.int k n)
      | _, _ => none
    | some (.struct fs) => match d with
      | .agg ds => (List.range fs.size).findSome? fun j => match fs[j]?, ds[j]? with
        | some fl, some x => if fl.offset ≤ i ∧ i < fl.offset + Pr.cellsOf fl.type then cellAt Pr f fl.type x (i - fl.offset) else none
        | _, _ => none
      | _ => none
    | some (.array n e) => match d with
      | .agg ds => match ds[i / Pr.cellsOf e]? with
        | some x => if i / Pr.cellsOf e < n ∧ 0 < Pr.cellsOf e then cellAt Pr f e x (i % Pr.cellsOf e) else none
        | none => none
      | _ => none
    | _ => none

theorem cellAt_sound {Pr : Program} {enc : TypeId × Value → Unit} {w : World} {base : Nat} {spare : Nat → Bool} {held : Bool} : ∀ (f : Nat) {t : TypeId} {d : DataW Unit} {i : Nat} {v : Value} {cs : List Value} {fuel : Nat} {ps : List MemPlace},
    cellAt Pr f t d i = some v → DataW.trod enc Pr w base spare held fuel t cs = some (d, ps) → cs[i]? = some v
  | 0, _, _, _, _, _, _, _, h, _ => by cases h
  | f + 1, t, d, i, v, cs, fuel, ps, h, ht => by
    simp only [cellAt] at h
    split at h
    · rename_i k hu
      obtain ⟨n, rfl, h2, _⟩ := DataW.trod_int hu ht
      simp only [Prod.mk.injEq] at h2
      obtain ⟨rfl, _⟩ := h2
      cases i with
      | zero => simpa using h
      | succ i => cases h
    · rename_i fs hu
      obtain ⟨xs, m, _, h2, _, _, h3⟩ := DataW.trod_struct hu ht
      simp only [Prod.mk.injEq] at h2
      obtain ⟨rfl, _⟩ := h2
      simp only at h
      obtain ⟨j, _, hj⟩ := List.exists_of_findSome?_eq_some h
      split at hj
      · rename_i fl x hf hx
        split at hj
        · rename_i hlt
          have h4 := h3 j fl hf
          simp only [List.getElem?_map, Option.map_eq_some_iff] at hx
          obtain ⟨y, hy, rfl⟩ := hx
          rw [hy] at h4
          have := cellAt_sound f hj (ps := y.2) h4
          rw [List.getElem?_take, if_pos (by omega), List.getElem?_drop] at this
          rw [← this]; congr 1; omega
        · cases hj
      · cases hj
    · rename_i n e hu
      obtain ⟨xs, m, _, h2, _, _, h3⟩ := DataW.trod_array hu ht
      simp only [Prod.mk.injEq] at h2
      obtain ⟨rfl, _⟩ := h2
      simp only at h
      split at h
      · rename_i x hx
        split at h
        · rename_i hlt
          have h4 := h3 (i / Pr.cellsOf e) hlt.1
          simp only [List.getElem?_map, Option.map_eq_some_iff] at hx
          obtain ⟨y, hy, rfl⟩ := hx
          rw [hy] at h4
          have := cellAt_sound f h (ps := y.2) h4
          rw [List.getElem?_take, if_pos (Nat.mod_lt _ hlt.2), List.getElem?_drop] at this
          rw [← this]; congr 1
          have := Nat.div_add_mod i (Pr.cellsOf e)
          rw [Nat.mul_comm] at this
          omega
        · cases h
      · cases h
    · cases h

/-- numbers, cell by cell -/
noncomputable def globOk (Pr : Program) (t : TypeId) (d : DataW Unit) (gl : List AV) : Bool :=
  !gl.isEmpty && gl.zipIdx.all fun x => match x.1, cellAt Pr 6 t d x.2 with
    | .int k n, some (.int k' n') => decide (k = k') && decide (n = n')
    | _, _ => false

theorem laidVars_mem {Pr : Program} {w : World} : ∀ {l : List (String × DataW Unit)} {ps : List MemPlace}, DataW.LaidVars Pr w l ps → ∀ {n : String} {d : DataW Unit}, (n, d) ∈ l →
    ∃ g t cs fuel p, Pr.globalNamed n = some g ∧ (Pr.globals[g]?).map (·.type) = some t ∧ w.var? Pr n = some cs ∧ DataW.trod (fun _ => ()) Pr w 0 (fun _ => true) false fuel t cs.toList = some (d, p)
  | (n', d') :: r, ps, h, n, d, hm => by
    obtain ⟨g, t, cs, fuel, p, q, h1, h2, h3, h4, h5, _⟩ := h
    cases hm with
    | head => exact ⟨g, t, cs, fuel, p, h1, h2, h3, h4⟩
    | tail _ hm => exact laidVars_mem h5 hm

theorem globO {Pr : Program} {ρ : En} {w : World} {l : List (String × DataW Unit)} {ps : List MemPlace} (h : DataW.LaidVars Pr w l ps) {n : String} {d : DataW Unit} (hm : (n, d) ∈ l) {g : Nat} {t : TypeId} {gl : List AV}
    (hg : Pr.globalNamed n = some g) (ht : (Pr.globals[g]?).map (·.type) = some t) (hc : globOk Pr t d gl = true) : O Pr ρ w.heap[g]? (.cells false gl) ⟨g, 0, 0, 0⟩ := by
  obtain ⟨g', t', cs, fuel, p, h1, h2, h3, h4⟩ := laidVars_mem h hm
  obtain rfl := Option.some.inj (hg.symm.trans h1)
  obtain rfl := Option.some.inj (ht.symm.trans h2)
  simp only [World.var?, hg, Option.bind_some] at h3
  split at h3
  · rename_i cs' ty fz hh
    cases h3
    simp only [globOk, Bool.and_eq_true, Bool.not_eq_true'] at hc
    have key : ∀ (i : Nat) (a : AV), gl[i]? = some a → ∃ v, cs[i]? = some v ∧ V Pr ρ a v ∧ v.oneCell' = true := by
      intro i a hi
      have := List.all_eq_true.1 hc.2 (a, i) (by rw [List.mem_zipIdx_iff_getElem?]; exact hi)
      simp only at this
      split at this
      · rename_i k n k' n' hcell
        simp only [Bool.and_eq_true, decide_eq_true_eq] at this
        obtain ⟨rfl, rfl⟩ := this
        exact ⟨_, by simpa using cellAt_sound 6 hcell h4, .int _ _, rfl⟩
      · cases this
    refine ⟨cs, ty, fz, hh, fun i a hi => by simpa using key i a hi, fun e => (by cases e), fun e => (by cases e), ?_, fun e => absurd rfl e⟩
    have hne : gl ≠ [] := by intro e; subst e; simp at hc
    have hlast : gl[gl.length - 1]? = some (gl[gl.length - 1]'(by have := List.length_pos_iff.2 hne; omega)) := List.getElem?_eq_getElem _
    obtain ⟨v, hv, _⟩ := key _ _ hlast
    have : gl.length - 1 < cs.size := by
      rcases Nat.lt_or_ge (gl.length - 1) cs.size with hh | hh
      · exact hh
      · rw [Array.getElem?_eq_none hh] at hv; cases hv
    show 0 + gl.length ≤ cs.size
    omega
  · cases h3

/-- the names of the variables alone -/
noncomputable def glEn (G : Nat) : En := fun p => if p.toNat < G then some ⟨p.toNat, 0, 0, 0⟩ else none

theorem glEn_some {G : Nat} {p : P} {e : BE} (h : glEn G p = some e) : p.toNat < G ∧ e = ⟨p.toNat, 0, 0, 0⟩ := by
  unfold glEn at h
  split at h
  · rename_i hlt; cases h; exact ⟨hlt, rfl⟩
  · cases h

/-- where a call begins: the variables alone are known -/
theorem WR.begin {Pr : Program} {w : World} {l : List (P × List AV)} (hsz : Pr.globals.size ≤ w.heap.size) (hq : Q0 Pr w.heap.size w)
    (hl : ∀ p cs, (p, cs) ∈ l → p.toNat < Pr.globals.size ∧ ∀ ρ, O Pr ρ w.heap[p.toNat]? (.cells false cs) ⟨p.toNat, 0, 0, 0⟩) :
    WR Pr w.heap.size w (glEn Pr.globals.size) (mkH (P.slot Pr.globals.size) l) w := by
  have noOwn : ∀ p, ((mkH (P.slot Pr.globals.size) l).get p).own = false := by
    intro p
    rcases mkH_get (P.slot Pr.globals.size) l p with h1 | ⟨cs, _, h1⟩ <;> rw [h1] <;> rfl
  refine ⟨.refl _ w, Nat.le_refl _, fun p e hp => ?_, fun p e hp => ?_, fun p e _ ho => ?_, fun p q e e' _ _ _ ho _ => ?_, fun p hp => ?_, hq⟩
  · obtain ⟨h1, rfl⟩ := glEn_some hp
    rcases mkH_get (P.slot Pr.globals.size) l p with h3 | ⟨cs, h3, h4⟩
    · rw [h3]; trivial
    · rw [h4]; exact (hl p cs h3).2 _
  · obtain ⟨h1, rfl⟩ := glEn_some hp
    exact Nat.lt_of_lt_of_le h1 hsz
  · rw [noOwn] at ho; cases ho
  · rw [noOwn] at ho; cases ho
  · have hp : Pr.globals.size ≤ p.toNat := by
      have : (mkH (P.slot Pr.globals.size) l).nxt.toNat = Pr.globals.size := P.toNat_slot _
      rw [this] at hp; exact hp
    constructor
    · unfold glEn; rw [if_neg (by omega)]
    · rcases mkH_get (P.slot Pr.globals.size) l p with h3 | ⟨cs, h3, _⟩
      · exact h3
      · have := (hl p cs h3).1; omega

theorem GL.begin (Pr : Program) : GL Pr (glEn Pr.globals.size) := by
  intro g hg
  unfold glEn
  rw [P.toNat_slot, if_pos hg]
end Go.Proofs.YtlklnffmhclioaaGreatDoor.Ev

