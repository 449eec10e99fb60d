/- Heaps by another naming, facts of calls at data, runs in pieces. -/
import Derived.Test.YtlklnffmhclioaaGreatDoorEvM
namespace Go.Proofs.YtlklnffmhclioaaGreatDoor.Ev
open Go.RowKit

mutual
/-- a value by another naming: F says which block of the one heap is a block of the other -/
noncomputable def relV (F : P → Option P) : AV → AV → Bool
  | .bool a, .bool b => bif a then b else !b
  | .int k a, .int k' b => bif kEq k k' then eqI a b else false
  | .str a, .str b => eqL a b
  | .ptr0, .ptr0 => true
  | .ptr b o, .ptr b' o' => decide (F b = some b') && Nat.beq o o'
  | .sl0, .sl0 => true
  | .sl b a o n c, .sl b' a' o' n' c' => decide (F b = some b') && Nat.beq a a' && Nat.beq o o' && Nat.beq n n' && decide (c = c')
  | .map0, .map0 => true
  | .map b, .map b' => decide (F b = some b')
  | .fn f a b, .fn f' a' b' => decide (f = f') && relVs F a a' && relVs F b b'
  | .fn0, .fn0 => true
  | .iface t v, .iface t' v' => Nat.beq t t' && relV F v v'
  | .iface0, .iface0 => true
  | .agg l, .agg l' => relVs F l l'
  | .tup l, .tup l' => relVs F l l'
  | _, _ => false
noncomputable def relVs (F : P → Option P) : List AV → List AV → Bool
  | [], [] => true
  | a :: x, b :: y => relV F a b && relVs F x y
  | _, _ => false
end

section
variable {Pr : Program} {ρ : En} {F : P → Option P}

def reEn (F : P → Option P) (ρ : En) : En := fun q => (F q).bind ρ
theorem reEn_some {q p : P} {e : BE} (h : F q = some p) (hp : ρ p = some e) : reEn F ρ q = some e := by simp [reEn, h, hp]

theorem isFn_re {fn : Fn} {f : FuncId} {a a' b b' : List AV} (h1 : relVs F a a' = true) (h2 : relVs F b b' = true) (k : isFn Pr fn f a' b') : isFn Pr fn f a b := by
  rcases k with k | ⟨rfl, k2, k3⟩
  · exact .inl k
  · refine .inr ⟨?_, ?_, k3⟩
    · cases b with
      | nil => rfl
      | cons x y => simp [relVs] at h2
    · intro e
      subst e
      cases a' with
      | nil => exact k2 rfl
      | cons x y => simp [relVs] at h1

mutual
theorem relV_sound : ∀ {a b : AV} {v : Value}, relV F a b = true → V Pr ρ b v → V Pr (reEn F ρ) a v
  | .bool a, .bool b, v, h, k => by
    cases a <;> cases b <;> first | (cases h; done) | skip
    all_goals (cases k; exact .bool _)
  | .int j a, .int j' b, v, h, k => by
    simp only [relV] at h
    cases hk : kEq j j' with
    | false => rw [hk] at h; cases h
    | true => rw [hk] at h; rw [kEq_true hk, eqI_true h]; cases k; exact .int _ _
  | .str a, .str b, v, h, k => by
    rw [eqL_true (show eqL a b = true from h)]
    cases k with
    | str hs => exact .str hs
  | .ptr0, .ptr0, v, _, k => by cases k; exact .ptr0
  | .ptr b o, .ptr b' o', v, h, k => by
    simp [relV, nbeq] at h
    obtain ⟨h1, rfl⟩ := h
    cases k with
    | ptr hp => exact .ptr (reEn_some h1 hp)
  | .sl0, .sl0, v, _, k => by cases k; exact .sl0
  | .sl b a o n c, .sl b' a' o' n' c', v, h, k => by
    simp [relV, nbeq] at h
    obtain ⟨⟨⟨⟨h1, rfl⟩, rfl⟩, rfl⟩, rfl⟩ := h
    cases k with
    | slE hp hl => exact .slE (reEn_some h1 hp) hl
    | slG hp hs ho hl => exact .slG (reEn_some h1 hp) hs ho hl
  | .map0, .map0, v, _, k => by cases k; exact .map0
  | .map b, .map b', v, h, k => by
    simp [relV] at h
    cases k with
    | map hp => exact .map (reEn_some h hp)
  | .fn f a b, .fn f' a' b', v, h, k => by
    simp [relV] at h
    obtain ⟨⟨rfl, h1⟩, h2⟩ := h
    cases k with
    | fn hp hf k1 k2 =>
      have e1 := relVs_sound h1 k1
      have e2 := relVs_sound h2 k2
      exact .fn hp (isFn_re h1 h2 hf) e1 e2
  | .fn0, .fn0, v, _, k => by cases k; exact .fn0
  | .iface t x, .iface t' x', v, h, k => by
    simp [relV, nbeq] at h
    obtain ⟨rfl, h1⟩ := h
    cases k with
    | iface hx => exact .iface (relV_sound h1 hx)
  | .iface0, .iface0, v, _, k => by cases k; exact .iface0
  | .agg l, .agg l', v, h, k => by
    cases k with
    | agg hl h1 => exact .agg (relVs_sound (show relVs F l l' = true by simpa [relV] using h) hl) h1
  | .tup l, .tup l', v, h, k => by
    cases k with
    | tup hl => exact .tup (relVs_sound (show relVs F l l' = true by simpa [relV] using h) hl)
theorem relVs_sound : ∀ {a b : List AV} {r : List Value}, relVs F a b = true → VL Pr ρ b r → VL Pr (reEn F ρ) a r
  | [], [], r, _, k => by cases k; exact .nil
  | a :: x, b :: y, r, h, k => by
    simp [relVs] at h
    cases k with
    | cons h1 h2 => exact .cons (relV_sound h.1 h1) (relVs_sound h.2 h2)
end
end
end Go.Proofs.YtlklnffmhclioaaGreatDoor.Ev

namespace Go.Proofs.YtlklnffmhclioaaGreatDoor.Ev
open Go.RowKit

/-- a heap of these blocks, that nobody writes -/
noncomputable def mkT (l : List (P × List AV)) : T AObj := l.foldr (fun x t => T.put .none (.cells false x.2) x.1 t) .leaf
noncomputable def mkH (nxt : P) (l : List (P × List AV)) : AH := ⟨nxt, mkT l⟩

theorem mkH_get (nxt : P) (l : List (P × List AV)) (p : P) : (mkH nxt l).get p = .none ∨ ∃ cs, (p, cs) ∈ l ∧ (mkH nxt l).get p = .cells false cs := by
  induction l with
  | nil => exact .inl (by show T.get AObj.none p .leaf = _; cases p <;> rfl)
  | cons x l ih =>
    have hg : (mkH nxt (x :: l)).get p = if p = x.1 then .cells false x.2 else (mkH nxt l).get p := T.get_put _ _ _
    rw [hg]
    by_cases hp : p = x.1
    · subst hp
      exact .inr ⟨x.2, List.mem_cons_self .., by simp⟩
    · simp only [hp, if_false]
      rcases ih with ih | ⟨cs, h1, h2⟩
      · exact .inl ih
      · exact .inr ⟨cs, List.mem_cons_of_mem _ h1, h2⟩

/-- names below G stand for themselves, then those of L -/
noncomputable def fOf (G : Nat) (L : List P) (q : P) : Option P := bif Nat.blt q.toNat G then some q else L[q.toNat - G]?

theorem fOf_lt {G : Nat} {L : List P} {q p : P} (h : fOf G L q = some p) : q.toNat < G + L.length := by
  unfold fOf at h
  cases hb : Nat.blt q.toNat G with
  | true => have : q.toNat < G := Nat.le_of_ble_eq_true hb; omega
  | false =>
    rw [hb] at h
    simp only [cond_false] at h
    have : q.toNat - G < L.length := by
      rcases Nat.lt_or_ge (q.toNat - G) L.length with h1 | h1
      · exact h1
      · rw [List.getElem?_eq_none h1] at h; cases h
    omega

/-- the blocks of the one heap stand in the other -/
noncomputable def relH (F : P → Option P) (h : AH) (l : List (P × List AV)) : Bool :=
  l.all fun x => match F x.1 with
    | some p => match h.get p with
      | .cells _ cs => relVs F x.2 cs
      | _ => false
    | none => false

theorem relVs_get {F : P → Option P} : ∀ {a b : List AV}, relVs F a b = true → a.length = b.length ∧ ∀ (i : Nat) (x : AV), a[i]? = some x → ∃ y, b[i]? = some y ∧ relV F x y = true
  | [], [], _ => ⟨rfl, fun i x h => by simp at h⟩
  | a :: x, b :: y, h => by
    simp [relVs] at h
    obtain ⟨h1, h2⟩ := relVs_get h.2
    refine ⟨by simp [h1], fun i z hz => ?_⟩
    cases i with
    | zero => simp at hz; subst hz; exact ⟨b, rfl, h.1⟩
    | succ i => exact h2 i z (by simpa using hz)
  | [], _ :: _, h => by simp [relVs] at h
  | _ :: _, [], h => by simp [relVs] at h

section
variable {Pr : Program} {B : Nat} {w0 w : World} {ρ : En} {h : AH} {G : Nat} {L : List P} {l : List (P × List AV)}

/-- it stands still -/
theorem WR.q1 (hw : WR Pr B w0 ρ h w) : Q0 Pr w.heap.size w := by
  intro g hg
  obtain ⟨h1, m, h2⟩ := hw.q0 g hg
  refine ⟨Nat.lt_of_lt_of_le h1 hw.base, m, ?_⟩
  rw [← h2]
  simp only [World.cell?]
  rw [hw.below.block g h1]

/-- the same memory by the other naming; all that there is now is nobody's to write -/
theorem WR.re (hw : WR Pr B w0 ρ h w) (hl : relH (fOf G L) h l = true) : WR Pr w.heap.size w (reEn (fOf G L) ρ) (mkH (P.slot (G + L.length)) l) w := by
  have ent : ∀ p e, reEn (fOf G L) ρ p = some e → ∃ q, fOf G L p = some q ∧ ρ q = some e := by
    intro p e hp
    simp only [reEn] at hp
    cases hq : fOf G L p with
    | none => rw [hq] at hp; cases hp
    | some q => rw [hq] at hp; exact ⟨q, rfl, hp⟩
  have noOwn : ∀ p, ((mkH (P.slot (G + L.length)) l).get p).own = false := by
    intro p
    rcases mkH_get (P.slot (G + L.length)) l p with h1 | ⟨cs, _, h1⟩ <;> rw [h1] <;> rfl
  refine ⟨.refl _ w, Nat.le_refl _, fun p e hp => ?_, fun p e hp => ?_, fun p e _ ho => ?_, fun p q e e' _ _ _ ho _ => ?_, fun p hp => ?_, hw.q1⟩
  · obtain ⟨q, h1, h2⟩ := ent p e hp
    rcases mkH_get (P.slot (G + L.length)) l p with h3 | ⟨cs, h3, h4⟩
    · rw [h3]; trivial
    · rw [h4]
      have hr := List.all_eq_true.1 hl _ h3
      simp only [h1] at hr
      have hO := hw.obj q e h2
      cases hg : h.get q with
      | cells own cs' =>
        rw [hg] at hr hO
        obtain ⟨c, t, fz, o1, o2, o3, o4, o5, o6⟩ := hO
        obtain ⟨r1, r2⟩ := relVs_get hr
        refine ⟨c, t, fz, o1, fun i a ha => ?_, fun hh => (by cases hh), fun hh => (by cases hh), (by rw [r1]; exact o5), fun hs => (by rw [r1]; exact o6 hs)⟩
        obtain ⟨b, hb, hrel⟩ := r2 i a ha
        obtain ⟨v, g1, g2, g3⟩ := o2 i b hb
        exact ⟨v, g1, relV_sound hrel g2, g3⟩
      | _ => rw [hg] at hr; cases hr
  · obtain ⟨q, h1, h2⟩ := ent p e hp
    exact hw.bnd q e h2
  · rw [noOwn] at ho; cases ho
  · rw [noOwn] at ho; cases ho
  · have hp : G + L.length ≤ p.toNat := by
      have : (mkH (P.slot (G + L.length)) l).nxt.toNat = G + L.length := P.toNat_slot _
      rw [this] at hp; exact hp
    constructor
    · cases hx : reEn (fOf G L) ρ p with
      | none => rfl
      | some e =>
        obtain ⟨q, h1, _⟩ := ent p e hx
        have := fOf_lt h1
        omega
    · rcases mkH_get (P.slot (G + L.length)) l p with h3 | ⟨cs, h3, h4⟩
      · exact h3
      · have hr := List.all_eq_true.1 hl _ h3
        cases hF : fOf G L p with
        | none => simp only [hF] at hr; cases hr
        | some q => have := fOf_lt hF; omega

/-- a call that left alone all that there was -/
theorem WR.kept {w' : World} (hw : WR Pr B w0 ρ h w) (hb : Below w.heap.size w w') : WR Pr B w0 ρ h w' := by
  have key : ∀ {k}, k < w.heap.size → w'.heap[k]? = w.heap[k]? := fun hk => hb.block _ hk
  refine ⟨hw.below.trans ⟨hb.os, hb.tape, hb.output, hb.size, fun k hk => key (Nat.lt_of_lt_of_le hk hw.base)⟩, Nat.le_trans hw.base hb.size, fun p e hp => ?_, fun p e hp => Nat.lt_of_lt_of_le (hw.bnd p e hp) hb.size, hw.own, hw.sep, hw.fresh, hw.q0⟩
  rw [key (hw.bnd p e hp)]
  exact hw.obj p e hp

theorem GL.re (gl : GL Pr ρ) (hG : Pr.globals.size ≤ G) : GL Pr (reEn (fOf G L) ρ) := by
  intro g hg
  have hlt : Nat.blt (P.slot g).toNat G = true := by rw [P.toNat_slot]; exact Nat.ble_eq_true_of_le (Nat.lt_of_lt_of_le hg hG)
  have hF : fOf G L (P.slot g) = some (P.slot g) := by simp only [fOf, hlt, cond_true]
  exact reEn_some hF (gl g hg)

theorem V.flat {ρ' : En} {a : AV} {v : Value} (hf : relV (fun _ => none) a a = true) (k : V Pr ρ' a v) : V Pr ρ a v := by
  refine (relV_sound (F := fun _ => none) hf k).mono ?_
  intro p e hp
  simp [reEn] at hp
end

/-- where a block's name is found: in an argument, or in a block that was found before; then within -/
inductive Src where
  | arg (i : Nat) (w : List Nat)
  | blk (k i : Nat) (w : List Nat)

noncomputable def walkV : AV → List Nat → Option AV
  | v, [] => some v
  | v, i :: r => match (match v with | .agg l => l[i]? | .tup l => l[i]? | .iface _ v => some v | _ => none) with
    | some x => walkV x r
    | none => none

noncomputable def nameV : AV → Option P
  | .ptr p _ => some p
  | .sl p _ _ _ _ => some p
  | .map p => some p
  | _ => none

noncomputable def findL (args : List AV) (h : AH) : List Src → List P → Option (List P)
  | [], L => some L
  | s :: r, L =>
    match (match s with
      | .arg i w => (args[i]?).bind (walkV · w)
      | .blk k i w => match L[k]? with
        | some p => match h.get p with
          | .cells _ cs => (cs[i]?).bind (walkV · w)
          | _ => none
        | none => none) with
    | some v => match nameV v with
      | some p => findL args h r (L ++ [p])
      | none => none
    | none => none

/-- what is known of a call at data -/
structure Fact where
  args : List AV
  blocks : List (P × List AV)
  srcs : List Src
  ans : AV

/-- the call's arguments, and what they lead to, are that data -/
noncomputable def Fact.fits (G : Nat) (d : Fact) (args : List AV) (h : AH) : Bool :=
  match findL args h d.srcs [] with
  | some L => Nat.beq L.length d.srcs.length && (relVs (fOf G L) d.args args && relH (fOf G L) h d.blocks)
  | none => false

noncomputable def Fact.heap (G : Nat) (d : Fact) : AH := mkH (P.slot (G + d.srcs.length)) d.blocks

noncomputable def factQ (f : P) (ans : AV) (p : P) (v : AV) (_ : AH) : Bool := decide (p = f) && eqV v ans

theorem Fact.sound {Pr : Program} {E : Env} (ok : EnvOk Pr E) {G : Nat} (hG : Pr.globals.size ≤ G) {d : Fact} {f : FuncId} (hf : relV (fun _ => none) d.ans d.ans = true)
    (k : Ends E (fun p v h => factQ (P.slot f) d.ans p v h = true) (enterA E false (P.slot f) d.args [] (d.heap G))) {args : List AV} {h : AH} (ht : d.fits G args h = true)
    (B : Nat) (w0 : World) (ρ : En) (w : World) (vs : Array Value) (gl : GL Pr ρ) (wr : WR Pr B w0 ρ h w) (hv : VL Pr ρ args vs.toList) :
    Calls Pr f vs w fun e w' => ∃ v' ρ', e = .returned v' ∧ V Pr ρ' d.ans v' ∧ WR Pr B w0 ρ' h w' ∧ Evo ρ ρ' h h := by
  unfold Fact.fits at ht
  cases hL : findL args h d.srcs [] with
  | none => rw [hL] at ht; cases ht
  | some L =>
    rw [hL] at ht
    simp only [Bool.and_eq_true] at ht
    obtain ⟨h0, h1, h2⟩ := ht
    have h0 : L.length = d.srcs.length := Nat.eq_of_beq_eq_true h0
    have wr2 := wr.re h2
    rw [h0] at wr2
    have := calls_of_ends ok k (fun p v h' hq => by simp only [factQ, Bool.and_eq_true, decide_eq_true_eq] at hq; exact hq.1) wr2 (gl.re hG) (relVs_sound h1 hv)
    intro cs
    obtain ⟨e, w', fr, ⟨v, v', h', ρ', rfl, q1, q2, q3⟩, g⟩ := this cs
    refine ⟨.returned v', w', fr, ⟨v', ρ, rfl, ?_, wr.kept q3.below, .refl ρ h⟩, g⟩
    simp only [factQ, Bool.and_eq_true] at q1
    rw [eqV_sound q1.2] at q2
    exact q2.flat hf
end Go.Proofs.YtlklnffmhclioaaGreatDoor.Ev

namespace Go.Proofs.YtlklnffmhclioaaGreatDoor.Ev
open Go.RowKit

/-- a table of compiled functions -/
noncomputable def mkTab (l : List (Nat × CFn)) : T (Option CFn) := l.foldr (fun x t => T.put none (some x.2) (P.slot x.1) t) .leaf

theorem mkTab_get : ∀ (l : List (Nat × CFn)) (p : P) (c : CFn), T.get none p (mkTab l) = some c → ∃ i, (i, c) ∈ l ∧ p = P.slot i
  | [], p, c, h => by
    have : T.get none p (mkTab []) = (none : Option CFn) := by show T.get none p .leaf = _; cases p <;> rfl
    rw [this] at h; cases h
  | x :: l, p, c, h => by
    have hg : T.get none p (mkTab (x :: l)) = if p = P.slot x.1 then some x.2 else T.get none p (mkTab l) := T.get_put _ _ _
    rw [hg] at h
    by_cases hp : p = P.slot x.1
    · rw [if_pos hp] at h
      cases h
      exact ⟨x.1, List.mem_cons_self .., hp⟩
    · rw [if_neg hp] at h
      obtain ⟨i, h1, h2⟩ := mkTab_get l p c h
      exact ⟨i, List.mem_cons_of_mem _ h1, h2⟩

def Comp (Pr : Program) (f : Nat) (c : CFn) : Prop := ∃ func, Pr.funcs[f]? = some func ∧ cFn Pr func = some c

def AllC (Pr : Program) : List (Nat × CFn) → Prop
  | [] => True
  | x :: r => Comp Pr x.1 x.2 ∧ AllC Pr r

theorem AllC.mem {Pr : Program} : ∀ {l : List (Nat × CFn)}, AllC Pr l → ∀ {i : Nat} {c : CFn}, (i, c) ∈ l → Comp Pr i c
  | x :: l, k, i, c, h => by
    cases h with
    | head => exact k.1
    | tail _ h => exact k.2.mem h

noncomputable def firstFit (G : Nat) (args : List AV) (h : AH) : List Fact → Option AV
  | [] => none
  | d :: r => bif d.fits G args h then some d.ans else firstFit G args h r

theorem firstFit_mem {G : Nat} {args : List AV} {h : AH} {v : AV} : ∀ {l : List Fact}, firstFit G args h l = some v → ∃ d ∈ l, d.fits G args h = true ∧ v = d.ans
  | [], h => by cases h
  | d :: r, hh => by
    simp only [firstFit] at hh
    cases hf : d.fits G args h with
    | true => rw [hf] at hh; cases hh; exact ⟨d, List.mem_cons_self .., hf, rfl⟩
    | false =>
      rw [hf] at hh
      obtain ⟨d', h1, h2⟩ := firstFit_mem (l := r) hh
      exact ⟨d', List.mem_cons_of_mem _ h1, h2⟩

noncomputable def mkFt (l : List (Nat × List Fact)) : T (List Fact) := l.foldr (fun x t => T.put [] x.2 (P.slot x.1) t) .leaf

theorem mkFt_get : ∀ (l : List (Nat × List Fact)) (p : P) (d : Fact), d ∈ T.get [] p (mkFt l) → ∃ i ds, (i, ds) ∈ l ∧ d ∈ ds ∧ p = P.slot i
  | [], p, d, h => by
    have : T.get [] p (mkFt []) = ([] : List Fact) := by show T.get [] p .leaf = _; cases p <;> rfl
    rw [this] at h; cases h
  | x :: l, p, d, h => by
    have hg : T.get [] p (mkFt (x :: l)) = if p = P.slot x.1 then x.2 else T.get [] p (mkFt l) := T.get_put _ _ _
    rw [hg] at h
    by_cases hp : p = P.slot x.1
    · rw [if_pos hp] at h
      exact ⟨x.1, x.2, List.mem_cons_self .., h, hp⟩
    · rw [if_neg hp] at h
      obtain ⟨i, ds, h1, h2⟩ := mkFt_get l p d h
      exact ⟨i, ds, List.mem_cons_of_mem _ h1, h2⟩

/-- the answers that are known otherwise -/
def OrcOk (Pr : Program) (ex : P → List AV → AH → Option AV) : Prop :=
  ∀ p args h v, ex p args h = some v → ∃ f func, p = P.slot f ∧ Pr.funcs[f]? = some func ∧ func.body.isSome = true ∧ func.name ≠ "runtime.NumGoroutine" ∧
    ∀ (B : Nat) (w0 : World) (ρ : En) (w : World) (vs : Array Value), GL Pr ρ → WR Pr B w0 ρ h w → VL Pr ρ args vs.toList →
      Calls Pr f vs w fun e w' => ∃ v' ρ', e = .returned v' ∧ V Pr ρ' v v' ∧ WR Pr B w0 ρ' h w' ∧ Evo ρ ρ' h h

noncomputable def envOf (tab : T (Option CFn)) (ft : T (List Fact)) (ex : P → List AV → AH → Option AV) (G : Nat) : Env :=
  ⟨fun p => T.get none p tab, fun p args h => match ex p args h with
    | some v => some v
    | none => firstFit G args h (T.get [] p ft)⟩

/-- a fact that an interpreter has found -/
def FactOk (Pr : Program) (G f : Nat) (d : Fact) : Prop :=
  (∃ c, Comp Pr f c) ∧ relV (fun _ => none) d.ans d.ans = true ∧ ∃ E, EnvOk Pr E ∧ Ends E (fun p v h => factQ (P.slot f) d.ans p v h = true) (enterA E false (P.slot f) d.args [] (d.heap G))

def AllF (Pr : Program) (G : Nat) : List (Nat × List Fact) → Prop
  | [] => True
  | x :: r => (∀ d ∈ x.2, FactOk Pr G x.1 d) ∧ AllF Pr G r

theorem AllF.mem {Pr : Program} {G : Nat} : ∀ {l : List (Nat × List Fact)}, AllF Pr G l → ∀ {i : Nat} {ds : List Fact} {d : Fact}, (i, ds) ∈ l → d ∈ ds → FactOk Pr G i d
  | x :: l, k, i, ds, d, h, hd => by
    cases h with
    | head => exact k.1 d hd
    | tail _ h => exact k.2.mem h hd

theorem envOf_ok {Pr : Program} {G : Nat} (hG : Pr.globals.size ≤ G) {tl : List (Nat × CFn)} {fl : List (Nat × List Fact)} {ex : P → List AV → AH → Option AV} (ht : AllC Pr tl) (hf : AllF Pr G fl) (hx : OrcOk Pr ex) :
    EnvOk Pr (envOf (mkTab tl) (mkFt fl) ex G) where
  tab p c h := by
    obtain ⟨i, h1, h2⟩ := mkTab_get tl p c h
    obtain ⟨func, h3, h4⟩ := ht.mem h1
    exact ⟨i, func, h2, h3, h4⟩
  orc p args h v hh := by
    have hh : (match ex p args h with | some v => some v | none => firstFit G args h (T.get [] p (mkFt fl))) = some v := hh
    cases he : ex p args h with
    | some v' => rw [he] at hh; cases hh; exact hx p args h v he
    | none =>
      rw [he] at hh
      obtain ⟨d, h1, h2, rfl⟩ := firstFit_mem (show firstFit G args h (T.get [] p (mkFt fl)) = some v from hh)
      obtain ⟨i, ds, h3, h4, rfl⟩ := mkFt_get fl p d h1
      obtain ⟨⟨c, func, c1, c2⟩, h5, E, ok, h6⟩ := hf.mem h3 h4
      obtain ⟨b, b1, b2, _⟩ := cFn_spec c2
      exact ⟨i, func, rfl, c1, by rw [b1]; rfl, b2, fun B w0 ρ w vs gl wr hv => Fact.sound ok hG h5 h6 h2 B w0 ρ w vs gl wr hv⟩

-- pieces of a long run
/-- n steps, without a draw that matters -/
noncomputable def goR (E : Env) (n : Nat) : R → R :=
  Nat.rec (motive := fun _ => R → R) (fun r => r)
    (fun _ ih r => R.casesOn (motive_1 := fun _ => R) r (fun tm todo mt cs h => ih (stepA E tm todo mt cs h)) (fun p v h => .done p v h) (fun l => .many l) (fun w => .fail w)) n

theorem goR_ends {E : Env} {Q : P → AV → AH → Prop} : ∀ (n : Nat) {r : R}, Ends E Q (goR E n r) → Ends E Q r := by
  intro n
  induction n with
  | zero => intro r h; exact h
  | succ n ih =>
    intro r h
    cases r with
    | next tm todo mt cs h' => exact .next (ih h)
    | done p v h' => exact h
    | many l => exact h
    | fail w => exact h

/-- of these blocks alone -/
noncomputable def keepT (h : AH) : List P → T AObj
  | [] => .leaf
  | p :: r => T.put .none (h.get p) p (keepT h r)
noncomputable def keepH (h : AH) (l : List P) : AH := ⟨h.nxt, keepT h l⟩

theorem keepH_less (h : AH) (l : List P) : Less (keepH h l) h := by
  refine ⟨rfl, fun p => ?_⟩
  show T.get .none p (keepT h l) = .none ∨ T.get .none p (keepT h l) = h.get p
  induction l with
  | nil => exact .inl (by cases p <;> rfl)
  | cons q r ih =>
    simp only [keepT, T.get_put]
    by_cases hp : p = q
    · subst hp; exact .inr (by simp)
    · simp only [hp, if_false]; exact ih

noncomputable def keepR (l : List P) (r : R) : R :=
  R.casesOn (motive_1 := fun _ => R) r (fun tm todo mt cs h => .next tm todo mt cs (keepH h l)) (fun p v h => .done p v h) (fun l => .many l) (fun w => .fail w)

theorem keepR_ends {E : Env} {Q : P → AV → AH → Prop} {l : List P} {r : R} (k : Ends E Q (keepR l r)) : Ends E Q r := by
  cases r with
  | next tm todo mt cs h => exact .drop (keepH_less h l) k
  | done p v h => exact k
  | many l => exact k
  | fail w => exact k

/-- a piece -/
theorem piece {E : Env} {Q : P → AV → AH → Prop} {n : Nat} {l : List P} {r s : R} (e : keepR l (goR E n r) = s) (k : Ends E Q s) : Ends E Q r := goR_ends n (keepR_ends (by rw [e]; exact k))
end Go.Proofs.YtlklnffmhclioaaGreatDoor.Ev

