/- Paths, tries; how the interpreter's values and heap stand to the machine's. -/
import Derived.Test.YtlklnffmhclioaaGreatDoorEvA
import Derived.Below
import Derived.AtR
import Derived.Laws.Sem
namespace Go.Proofs.YtlklnffmhclioaaGreatDoor.Ev

-- paths
@[simp] theorem P.toNat_z : P.toNat .z = 0 := rfl
@[simp] theorem P.toNat_a (p : P) : P.toNat (.a p) = 4 * p.toNat + 1 := rfl
@[simp] theorem P.toNat_b (p : P) : P.toNat (.b p) = 4 * p.toNat + 2 := rfl
@[simp] theorem P.toNat_c (p : P) : P.toNat (.c p) = 4 * p.toNat + 3 := rfl
@[simp] theorem P.toNat_d (p : P) : P.toNat (.d p) = 4 * p.toNat + 4 := rfl

theorem P.toNat_inj : ∀ {p q : P}, p.toNat = q.toNat → p = q := by
  intro p
  induction p with
  | z => intro q h; cases q <;> simp at h <;> rfl
  | a p ih => intro q h; cases q with
    | a q => simp at h; have := ih (q := q) (by omega); rw [this]
    | _ => simp at h <;> omega
  | b p ih => intro q h; cases q with
    | b q => simp at h; have := ih (q := q) (by omega); rw [this]
    | _ => simp at h <;> omega
  | c p ih => intro q h; cases q with
    | c q => simp at h; have := ih (q := q) (by omega); rw [this]
    | _ => simp at h <;> omega
  | d p ih => intro q h; cases q with
    | d q => simp at h; have := ih (q := q) (by omega); rw [this]
    | _ => simp at h <;> omega

theorem P.toNat_succ (p : P) : p.succ.toNat = p.toNat + 1 := by
  induction p with
  | z => rfl
  | a p ih => rfl
  | b p ih => rfl
  | c p ih => rfl
  | d p ih => show 4 * (P.succ p).toNat + 1 = _; rw [ih]; simp; omega

theorem P.toNat_ofAux : ∀ (k n : Nat), n ≤ k → (P.ofAux k n).toNat = n := by
  intro k
  induction k with
  | zero => intro n h; have : n = 0 := by omega
            subst this; rfl
  | succ k ih =>
    intro n h
    unfold P.ofAux
    by_cases h0 : n = 0
    · subst h0; rfl
    · have hb : Nat.beq n 0 = false := by
        cases hb : Nat.beq n 0 with
        | false => rfl
        | true => exact absurd (Nat.eq_of_beq_eq_true hb) h0
      rw [hb]
      have hq := ih (Nat.div (n - 1) 4) (by show (n - 1) / 4 ≤ k; omega)
      have hq' : (P.ofAux k (Nat.div (n - 1) 4)).toNat = (n - 1) / 4 := hq
      simp only [cond_false]
      have hm : (n - 1) % 4 < 4 := Nat.mod_lt _ (by decide)
      split <;> rename_i hmod
      · have : (n - 1) % 4 = 0 := hmod
        simp [hq']; omega
      · have : (n - 1) % 4 = 1 := hmod
        simp [hq']; omega
      · have : (n - 1) % 4 = 2 := hmod
        simp [hq']; omega
      · rename_i h1 h2
        have a0 : ¬ (n - 1) % 4 = 0 := h1
        have a1 : ¬ (n - 1) % 4 = 1 := h2
        have a2 : ¬ (n - 1) % 4 = 2 := hmod
        simp [hq']; omega

@[simp] theorem P.toNat_slot (n : Nat) : (P.slot n).toNat = n := P.toNat_ofAux n n (Nat.le_refl _)
theorem P.slot_inj {m n : Nat} (h : P.slot m = P.slot n) : m = n := by
  have := congrArg P.toNat h; simpa using this
theorem P.slot_ne {m n : Nat} (h : m ≠ n) : P.slot m ≠ P.slot n := fun e => h (P.slot_inj e)
theorem P.slot_toNat (p : P) : P.slot p.toNat = p := P.toNat_inj (by simp)
theorem P.slot_succ (n : Nat) : (P.slot n).succ = P.slot (n + 1) := P.toNat_inj (by rw [P.toNat_succ]; simp)
theorem P.slot_zero : P.slot 0 = .z := rfl

-- trees
section
variable {α : Type} {e x : α}
@[simp] theorem T.get_leaf (p : P) : T.get e p .leaf = e := by cases p <;> rfl
@[simp] theorem T.get_z (a b c d : T α) (v : α) : T.get e .z (.node a b c d v) = v := rfl
@[simp] theorem T.get_a (p : P) (a b c d : T α) (v : α) : T.get e (.a p) (.node a b c d v) = T.get e p a := rfl
@[simp] theorem T.get_b (p : P) (a b c d : T α) (v : α) : T.get e (.b p) (.node a b c d v) = T.get e p b := rfl
@[simp] theorem T.get_c (p : P) (a b c d : T α) (v : α) : T.get e (.c p) (.node a b c d v) = T.get e p c := rfl
@[simp] theorem T.get_d (p : P) (a b c d : T α) (v : α) : T.get e (.d p) (.node a b c d v) = T.get e p d := rfl

theorem T.get_put_same (p : P) (t : T α) : T.get e p (T.put e x p t) = x := by
  induction p generalizing t with
  | z => cases t <;> rfl
  | a p ih => cases t <;> exact ih _
  | b p ih => cases t <;> exact ih _
  | c p ih => cases t <;> exact ih _
  | d p ih => cases t <;> exact ih _

theorem T.get_put_ne {p q : P} (h : q ≠ p) (t : T α) : T.get e q (T.put e x p t) = T.get e q t := by
  induction p generalizing q t with
  | z => cases t <;> cases q <;> first | exact absurd rfl h | rfl | exact T.get_leaf _
  | a p ih => cases t <;> cases q <;> first | exact ih (fun hh => h (by rw [hh])) _ | exact (ih (fun hh => h (by rw [hh])) .leaf).trans (T.get_leaf _) | rfl | exact T.get_leaf _
  | b p ih => cases t <;> cases q <;> first | exact ih (fun hh => h (by rw [hh])) _ | exact (ih (fun hh => h (by rw [hh])) .leaf).trans (T.get_leaf _) | rfl | exact T.get_leaf _
  | c p ih => cases t <;> cases q <;> first | exact ih (fun hh => h (by rw [hh])) _ | exact (ih (fun hh => h (by rw [hh])) .leaf).trans (T.get_leaf _) | rfl | exact T.get_leaf _
  | d p ih => cases t <;> cases q <;> first | exact ih (fun hh => h (by rw [hh])) _ | exact (ih (fun hh => h (by rw [hh])) .leaf).trans (T.get_leaf _) | rfl | exact T.get_leaf _

theorem T.get_put (p q : P) (t : T α) : T.get e q (T.put e x p t) = if q = p then x else T.get e q t := by
  split
  · rename_i h; subst h; exact T.get_put_same _ _
  · rename_i h; exact T.get_put_ne h _
end

-- lists
theorem slabL_spec : ∀ (n : Nat) (l r : List AV), slabL n l = some r → r = l.take n ∧ n ≤ l.length
  | 0, l, r, h => by
    have : slabL 0 l = some [] := rfl
    rw [this] at h; cases h; simp
  | n + 1, [], r, h => by cases h
  | n + 1, a :: l, r, h => by
    have he : slabL (n + 1) (a :: l) = Option.rec (motive := fun _ => Option (List AV)) none (fun r => some (a :: r)) (slabL n l) := rfl
    rw [he] at h
    cases hs : slabL n l with
    | none => rw [hs] at h; cases h
    | some r' =>
      rw [hs] at h; cases h
      obtain ⟨h1, h2⟩ := slabL_spec n l r' hs
      subst h1; simp; exact h2

theorem dropL_eq {α : Type} : ∀ (n : Nat) (l : List α), dropL n l = l.drop n
  | 0, l => rfl
  | n + 1, [] => by show ([] : List α) = _; simp
  | n + 1, a :: l => by show dropL n l = _; rw [dropL_eq n l]; rfl

theorem nth_eq : ∀ (l : List AV) (n : Nat), nth l n = l[n]?
  | [], n => by show none = _; simp
  | a :: l, 0 => rfl
  | a :: l, n + 1 => by show nth l n = _; rw [nth_eq l n]; simp

theorem over_spec : ∀ (xs l r : List AV), over xs l = some r → r = xs ++ l.drop xs.length ∧ xs.length ≤ l.length
  | [], l, r, h => by have : over [] l = some l := rfl
                      rw [this] at h; cases h; simp
  | x :: xs, [], r, h => by cases h
  | x :: xs, a :: l, r, h => by
    have he : over (x :: xs) (a :: l) = Option.rec (motive := fun _ => Option (List AV)) none (fun r => some (x :: r)) (over xs l) := rfl
    rw [he] at h
    cases hs : over xs l with
    | none => rw [hs] at h; cases h
    | some r' =>
      rw [hs] at h; cases h
      obtain ⟨h1, h2⟩ := over_spec xs l r' hs
      subst h1; simp; exact h2

theorem setAt_spec : ∀ (n : Nat) (xs l r : List AV), setAt n xs l = some r → r = l.take n ++ xs ++ l.drop (n + xs.length) ∧ n + xs.length ≤ l.length
  | 0, xs, l, r, h => by
    have he : setAt 0 xs l = over xs l := rfl
    rw [he] at h
    obtain ⟨h1, h2⟩ := over_spec xs l r h
    subst h1; simpa using h2
  | n + 1, xs, [], r, h => by cases h
  | n + 1, xs, a :: l, r, h => by
    have he : setAt (n + 1) xs (a :: l) = Option.rec (motive := fun _ => Option (List AV)) none (fun r => some (a :: r)) (setAt n xs l) := rfl
    rw [he] at h
    cases hs : setAt n xs l with
    | none => rw [hs] at h; cases h
    | some r' =>
      rw [hs] at h; cases h
      obtain ⟨h1, h2⟩ := setAt_spec n xs l r' hs
      subst h1
      refine ⟨?_, by simp; omega⟩
      rw [show n + 1 + xs.length = (n + xs.length) + 1 from by omega]
      simp

end Go.Proofs.YtlklnffmhclioaaGreatDoor.Ev

namespace Go.Proofs.YtlklnffmhclioaaGreatDoor.Ev
open Go.RowKit

/-- where a block of the interpreter's lies: the machine's block, from which cell; of what an append has made: how many elements have room, and their cells -/
structure BE where
  a : Nat
  off : Nat
  cap : Nat
  sz : Nat

abbrev En := P → Option BE

def ad (e : BE) (i : Nat) : Addr := ⟨e.a, e.off + i, none⟩

def isFn (Pr : Program) (fn : Fn) (f : FuncId) (first cap : List AV) : Prop :=
  fn = .func f ∨ (cap = [] ∧ first ≠ [] ∧ ∃ t u, fn = .via t #[] f true ∧ Pr.underlying t = some (.pointer u))

mutual
inductive V (Pr : Program) (ρ : En) : AV → Value → Prop where
  | bool (b : Bool) : V Pr ρ (.bool b) (.bool b)
  | int (k : IntKind) (n : Int) : V Pr ρ (.int k n) (.int k n)
  | str {s : List Nat} {b : ByteArray} (h : bytesA b = s) : V Pr ρ (.str s) (.string b)
  | ptr0 : V Pr ρ .ptr0 (.pointer none)
  | ptr {p : P} {off : Nat} {e : BE} (h : ρ p = some e) : V Pr ρ (.ptr p off) (.pointer (some (ad e off)))
  | sl0 : V Pr ρ .sl0 (.slice none 0 0)
  | slE {p : P} {alt off len c : Nat} {e : BE} (h : ρ p = some e) (hl : len ≤ c) : V Pr ρ (.sl p alt off len (.exact c)) (.slice (some (ad e off)) len c)
  | slG {p : P} {alt off len g sz : Nat} {e : BE} (h : ρ p = some e) (hs : e.sz = sz) (ho : off = g * sz) (hl : g + len ≤ e.cap) :
      V Pr ρ (.sl p alt off len (.ghost g sz)) (.slice (some (ad e (if e.cap = g then alt else off))) len (e.cap - g))
  | map0 : V Pr ρ .map0 (.map none)
  | map {p : P} {e : BE} (h : ρ p = some e) : V Pr ρ (.map p) (.map (some e.a))
  | fn {p : P} {first cap : List AV} {fn : Fn} {f : FuncId} {fs cs : Array Value} (hp : p = P.slot f) (hf : isFn Pr fn f first cap) (h1 : VL Pr ρ first fs.toList) (h2 : VL Pr ρ cap cs.toList) :
      V Pr ρ (.fn p first cap) (.func fn fs cs)
  | yld {p : P} {e : BE} (h : ρ p = some e) : V Pr ρ (.yld p) (.func (.yield e.a) #[] #[])
  | fn0 : V Pr ρ .fn0 .nilFunc
  | iface {t : TypeId} {a : AV} {v : Value} (h : V Pr ρ a v) : V Pr ρ (.iface t a) (.iface t v)
  | iface0 : V Pr ρ .iface0 .nilIface
  | agg {l : List AV} {cs : Array Value} (h : VL Pr ρ l cs.toList) (h1 : ∀ x ∈ cs.toList, x.oneCell' = true) : V Pr ρ (.agg l) (.agg cs)
  | tup {l : List AV} {cs : Array Value} (h : VL Pr ρ l cs.toList) : V Pr ρ (.tup l) (.tuple cs)
inductive VL (Pr : Program) (ρ : En) : List AV → List Value → Prop where
  | nil : VL Pr ρ [] []
  | cons {a : AV} {v : Value} {l : List AV} {r : List Value} (h : V Pr ρ a v) (t : VL Pr ρ l r) : VL Pr ρ (a :: l) (v :: r)
end

def Ext (ρ ρ' : En) : Prop := ∀ p e, ρ p = some e → ρ' p = some e
theorem Ext.refl (ρ : En) : Ext ρ ρ := fun _ _ h => h
theorem Ext.trans {a b c : En} (h : Ext a b) (k : Ext b c) : Ext a c := fun p e x => k p e (h p e x)

mutual
theorem V.mono {Pr : Program} {ρ ρ' : En} (x : Ext ρ ρ') : ∀ {a : AV} {v : Value}, V Pr ρ a v → V Pr ρ' a v
  | _, _, .bool b => .bool b
  | _, _, .int k n => .int k n
  | _, _, .str h => .str h
  | _, _, .ptr0 => .ptr0
  | _, _, .ptr h => .ptr (x _ _ h)
  | _, _, .sl0 => .sl0
  | _, _, .slE h hl => .slE (x _ _ h) hl
  | _, _, .slG h hs ho hl => .slG (x _ _ h) hs ho hl
  | _, _, .map0 => .map0
  | _, _, .map h => .map (x _ _ h)
  | _, _, .fn hp hf h1 h2 => .fn hp hf (VL.mono x h1) (VL.mono x h2)
  | _, _, .yld h => .yld (x _ _ h)
  | _, _, .fn0 => .fn0
  | _, _, .iface h => .iface (V.mono x h)
  | _, _, .iface0 => .iface0
  | _, _, .agg h h1 => .agg (VL.mono x h) h1
  | _, _, .tup h => .tup (VL.mono x h)
theorem VL.mono {Pr : Program} {ρ ρ' : En} (x : Ext ρ ρ') : ∀ {l : List AV} {r : List Value}, VL Pr ρ l r → VL Pr ρ' l r
  | _, _, .nil => .nil
  | _, _, .cons h t => .cons (V.mono x h) (VL.mono x t)
end

section
variable {Pr : Program} {ρ : En}

theorem VL.length : ∀ {l : List AV} {r : List Value}, VL Pr ρ l r → l.length = r.length
  | _, _, .nil => rfl
  | _, _, .cons _ t => by simp [VL.length t]

theorem VL.get : ∀ {l : List AV} {r : List Value} {i : Nat} {a : AV}, VL Pr ρ l r → l[i]? = some a → ∃ v, r[i]? = some v ∧ V Pr ρ a v
  | _, _, i, a, .nil, h => by simp at h
  | _, _, 0, a, .cons h t, hh => by simp at hh; subst hh; exact ⟨_, rfl, h⟩
  | _, _, i + 1, a, .cons h t, hh => by simp at hh; simpa using VL.get t hh

theorem VL.append : ∀ {l m : List AV} {r s : List Value}, VL Pr ρ l r → VL Pr ρ m s → VL Pr ρ (l ++ m) (r ++ s)
  | _, _, _, _, .nil, k => k
  | _, _, _, _, .cons h t, k => .cons h (VL.append t k)

theorem VL.take : ∀ {l : List AV} {r : List Value} (n : Nat), VL Pr ρ l r → VL Pr ρ (l.take n) (r.take n)
  | _, _, 0, _ => by simpa using VL.nil
  | _, _, n + 1, .nil => by simpa using VL.nil
  | _, _, n + 1, .cons h t => by simpa using VL.cons h (VL.take n t)

theorem VL.drop : ∀ {l : List AV} {r : List Value} (n : Nat), VL Pr ρ l r → VL Pr ρ (l.drop n) (r.drop n)
  | _, _, 0, h => by simpa using h
  | _, _, n + 1, .nil => by simpa using VL.nil
  | _, _, n + 1, .cons h t => by simpa using VL.drop n t

/-- from cell to cell -/
theorem VL.of_get : ∀ {l : List AV} {r : List Value}, l.length = r.length → (∀ (i : Nat) (a : AV), l[i]? = some a → ∃ v, r[i]? = some v ∧ V Pr ρ a v) → VL Pr ρ l r
  | [], [], _, _ => .nil
  | a :: l, [], h, _ => by simp at h
  | [], v :: r, h, _ => by simp at h
  | a :: l, v :: r, h, k => by
    refine .cons ?_ (VL.of_get (by simpa using h) fun i b hb => ?_)
    · obtain ⟨u, hu, hv⟩ := k 0 a rfl
      simp at hu; subst hu; exact hv
    · obtain ⟨u, hu, hv⟩ := k (i + 1) b (by simpa using hb)
      exact ⟨u, by simpa using hu, hv⟩
end

inductive All2 {α β : Type} (R : α → β → Prop) : List α → List β → Prop where
  | nil : All2 R [] []
  | cons {a : α} {b : β} {l : List α} {r : List β} (h : R a b) (t : All2 R l r) : All2 R (a :: l) (b :: r)

theorem All2.imp {α β : Type} {R S : α → β → Prop} (f : ∀ a b, R a b → S a b) : ∀ {l : List α} {r : List β}, All2 R l r → All2 S l r
  | _, _, .nil => .nil
  | _, _, .cons h t => .cons (f _ _ h) (All2.imp f t)
theorem All2.length {α β : Type} {R : α → β → Prop} : ∀ {l : List α} {r : List β}, All2 R l r → l.length = r.length
  | _, _, .nil => rfl
  | _, _, .cons _ t => by simp [All2.length t]
theorem All2.append {α β : Type} {R : α → β → Prop} : ∀ {l m : List α} {r s : List β}, All2 R l r → All2 R m s → All2 R (l ++ m) (r ++ s)
  | _, _, _, _, .nil, k => k
  | _, _, _, _, .cons h t, k => .cons h (All2.append t k)

def LSR : LS → LoopState → Prop
  | .ready, .ready | .busy, .busy | .done, .done | .exhausted, .exhausted => True
  | _, _ => False
def JR : Jmp → Option Code → Prop
  | .none, j => j = none
  | .ret, j => j = some .ret
  | .exit id, j => j = some (.exit id)
  | .goto l, j => j = some (.goto l)

def ER (Pr : Program) (ρ : En) (a : AEnt) (m : MapEntry) : Prop := V Pr ρ a.key m.key ∧ V Pr ρ a.val m.val ∧ a.born = m.born

/-- deferred calls -/
inductive DR (Pr : Program) (ρ : En) : ADef → Deferred → Prop where
  | call {p : P} {first cap as : List AV} {fn : Fn} {f : FuncId} {cs xs : Array Value} (hp : p = P.slot f) (hf : isFn Pr fn f first cap) (h2 : VL Pr ρ cap cs.toList) (h : VL Pr ρ (first ++ as) xs.toList) :
      DR Pr ρ ⟨.fn p first cap, as⟩ { target := .fn fn cs, args := xs }
  | coll {p : P} {e : BE} (h : ρ p = some e) : DR Pr ρ ⟨.ptr p 0, []⟩ { target := .collected e.a, args := #[] }

theorem DR.mono {Pr : Program} {ρ ρ' : En} (x : Ext ρ ρ') {a : ADef} {d : Deferred} (h : DR Pr ρ a d) : DR Pr ρ' a d := by
  cases h with
  | call hp hf h2 h => exact .call hp hf (h2.mono x) (h.mono x)
  | coll h => exact .coll (x _ _ h)

/-- the temporaries -/
def TM (Pr : Program) (ρ : En) (n : Nat) (tm : T AV) (tmps : Array Value) : Prop :=
  n ≤ tmps.size ∧ ∀ t, V Pr ρ (T.get undefA (P.slot t) tm) (tmps.getD t undef)

theorem TM.mono {Pr : Program} {ρ ρ' : En} (x : Ext ρ ρ') {n : Nat} {tm : T AV} {tmps : Array Value} (h : TM Pr ρ n tm tmps) : TM Pr ρ' n tm tmps :=
  ⟨h.1, fun t => (h.2 t).mono x⟩

theorem V.undef {Pr : Program} {ρ : En} : V Pr ρ undefA undef := .tup .nil

theorem TM.put {Pr : Program} {ρ : En} {n : Nat} {tm : T AV} {tmps : Array Value} (h : TM Pr ρ n tm tmps) {d : Nat} (hd : d < n) {a : AV} {v : Value} (hv : V Pr ρ a v) :
    TM Pr ρ n (T.put undefA a (P.slot d) tm) (tmps.setIfInBounds d v) := by
  refine ⟨by simpa using h.1, fun t => ?_⟩
  by_cases ht : t = d
  · subst ht
    rw [T.get_put_same]
    have : t < tmps.size := Nat.lt_of_lt_of_le hd h.1
    simpa [this] using hv
  · rw [T.get_put_ne (P.slot_ne ht)]
    have := h.2 t
    simpa [Array.getD_eq_getD_getElem?, Array.getElem?_setIfInBounds_ne (Ne.symm ht)] using this

structure LpR (Pr : Program) (ρ : En) (L : Loop) (st : LS) (pend : Jmp) (fn : P) (tm : T AV) (ps : List P) (a b : CC) (d : P) : Prop where
  st : LSR st L.state
  pend : JR pend L.pending
  fn : fn = P.slot L.fn
  tms : ∃ func, Pr.funcs[L.fn]? = some func ∧ cCode Pr func.ntmps (resT func.results.toList) L.assign = some a ∧ cCode Pr func.ntmps (resT func.results.toList) L.body = some b ∧ TM Pr ρ func.ntmps tm L.tmps ∧ ∀ t ∈ L.params.toList, t < func.ntmps
  ps : ps = L.params.toList.map P.slot
  df : ∃ e, ρ d = some e ∧ L.defers = e.a

theorem LpR.mono {Pr : Program} {ρ ρ' : En} (x : Ext ρ ρ') {L : Loop} {st : LS} {pend : Jmp} {fn : P} {tm : T AV} {ps : List P} {a b : CC} {d : P}
    (h : LpR Pr ρ L st pend fn tm ps a b d) : LpR Pr ρ' L st pend fn tm ps a b d := by
  obtain ⟨h1, h2, h3, ⟨func, g1, g2, g3, g4, g5⟩, h5, ⟨e, h6, h7⟩⟩ := h
  exact ⟨h1, h2, h3, ⟨func, g1, g2, g3, g4.mono x, g5⟩, h5, ⟨e, x _ _ h6, h7⟩⟩

/-- what stands in a block of the machine's for one of the interpreter's -/
def O (Pr : Program) (ρ : En) (x : Option Obj) (o : AObj) (e : BE) : Prop :=
  match o with
  | .none => True
  | .cells own cs => ∃ c t fz, x = some (.cells c t fz) ∧ (∀ i a, cs[i]? = some a → ∃ v, c[e.off + i]? = some v ∧ V Pr ρ a v ∧ v.oneCell' = true) ∧
      (own = true → ∀ i, i < c.size → ¬ (fz.1 ≤ i ∧ i < fz.2)) ∧ (own = true → e.off + e.cap * e.sz ≤ c.size) ∧ e.off + cs.length ≤ c.size ∧ (e.sz ≠ 0 → cs.length ≤ e.cap * e.sz)
  | .map es clock => ∃ ces, x = some (.map ces clock) ∧ All2 (ER Pr ρ) es ces.toList
  | .mapIter m since seen st => e.off = 0 ∧ ∃ m', x = some (.mapIter m' since seen.toArray st) ∧ (match m with | none => m' = none | some p => ∃ e', ρ p = some e' ∧ m' = some e'.a)
  | .strIter s pos => e.off = 0 ∧ ∃ b, x = some (.stringIter b pos) ∧ bytesA b = s
  | .loop st pend fn tm ps a b d => ∃ L, x = some (.loop L) ∧ LpR Pr ρ L st pend fn tm ps a b d
  | .deferred none => x = some (.deferred none)
  | .deferred (some l) => ∃ dl, x = some (.deferred (some dl)) ∧ All2 (DR Pr ρ) l dl

theorem O.mono {Pr : Program} {ρ ρ' : En} (x : Ext ρ ρ') {y : Option Obj} {o : AObj} {e : BE} (h : O Pr ρ y o e) : O Pr ρ' y o e := by
  cases o with
  | none => trivial
  | cells own cs =>
    obtain ⟨c, t, fz, h1, h2, h3, h4⟩ := h
    exact ⟨c, t, fz, h1, fun i a ha => let ⟨v, g1, g2, g3⟩ := h2 i a ha; ⟨v, g1, g2.mono x, g3⟩, h3, h4⟩
  | map es clock =>
    obtain ⟨ces, h1, h2⟩ := h
    exact ⟨ces, h1, h2.imp fun a m ⟨g1, g2, g3⟩ => ⟨g1.mono x, g2.mono x, g3⟩⟩
  | mapIter m since seen st =>
    obtain ⟨h0, m', h1, h2⟩ := h
    refine ⟨h0, m', h1, ?_⟩
    cases m with
    | none => exact h2
    | some p => obtain ⟨e', g1, g2⟩ := h2; exact ⟨e', x _ _ g1, g2⟩
  | strIter s pos => exact h
  | loop st pend fn tm ps a b d =>
    obtain ⟨L, h1, h2⟩ := h
    exact ⟨L, h1, h2.mono x⟩
  | deferred d =>
    cases d with
    | none => exact h
    | some l => obtain ⟨dl, h1, h2⟩ := h; exact ⟨dl, h1, h2.imp fun _ _ g => g.mono x⟩

def AObj.own : AObj → Bool
  | .none => false
  | .cells o _ => o
  | _ => true
def AObj.live : AObj → Bool
  | .none => false
  | _ => true

/-- a variable of the library's of which nothing is known but that it is a number -/
def Q0 (Pr : Program) (B : Nat) (w : World) : Prop :=
  ∀ g, (Pr.globals[g]?).map (·.name) = some "internal/bytealg.MaxLen" → g < B ∧ ∃ m, w.cell? ⟨g, 0, none⟩ = some (.int .i64 m)

/-- the interpreter's heap, and the world -/
structure WR (Pr : Program) (B : Nat) (w0 : World) (ρ : En) (h : AH) (w : World) : Prop where
  below : Below B w0 w
  base : B ≤ w.heap.size
  obj : ∀ p e, ρ p = some e → O Pr ρ w.heap[e.a]? (h.get p) e
  bnd : ∀ p e, ρ p = some e → e.a < w.heap.size
  own : ∀ p e, ρ p = some e → (h.get p).own = true → B ≤ e.a
  sep : ∀ p q e e', p ≠ q → ρ p = some e → ρ q = some e' → (h.get p).own = true → (h.get q).live = true → e.a ≠ e'.a
  fresh : ∀ p, h.nxt.toNat ≤ p.toNat → ρ p = none ∧ h.get p = .none
  q0 : Q0 Pr B w0

/-- how the interpreter goes on: what it knew stays; what the machine has not yet made stays -/
structure Evo (ρ ρ' : En) (h h' : AH) : Prop where
  ext : Ext ρ ρ'
  nxt : h.nxt.toNat ≤ h'.nxt.toNat
  keep : ∀ p, p.toNat < h.nxt.toNat → ρ p = none → ρ' p = none ∧ h'.get p = h.get p

theorem Evo.refl (ρ : En) (h : AH) : Evo ρ ρ h h := ⟨.refl ρ, Nat.le_refl _, fun _ _ hp => ⟨hp, rfl⟩⟩
theorem Evo.trans {a b c : En} {h k l : AH} (x : Evo a b h k) (y : Evo b c k l) : Evo a c h l :=
  ⟨x.ext.trans y.ext, Nat.le_trans x.nxt y.nxt, fun p hp hn =>
    let ⟨g1, g2⟩ := x.keep p hp hn
    let ⟨g3, g4⟩ := y.keep p (Nat.lt_of_lt_of_le hp x.nxt) g1
    ⟨g3, g4.trans g2⟩⟩

def upd (ρ : En) (p : P) (e : BE) : En := fun q => if q = p then some e else ρ q
theorem upd_same (ρ : En) (p : P) (e : BE) : upd ρ p e p = some e := by simp [upd]
theorem upd_ne {ρ : En} {p q : P} {e : BE} (h : q ≠ p) : upd ρ p e q = ρ q := by simp [upd, h]
theorem Ext.upd {ρ : En} {p : P} (e : BE) (h : ρ p = none) : Ext ρ (upd ρ p e) := fun q x hq => by
  by_cases hqp : q = p
  · subst hqp; rw [h] at hq; cases hq
  · rw [upd_ne hqp]; exact hq

theorem AH.get_new (h : AH) (o : AObj) (p : P) : (h.new o).get p = if p = h.nxt then o else h.get p := T.get_put _ _ _
theorem AH.nxt_new (h : AH) (o : AObj) : (h.new o).nxt = h.nxt.succ := rfl
theorem AH.get_set (h : AH) (b : P) (o : AObj) (p : P) : (h.set b o).get p = if p = b then o else h.get p := T.get_put _ _ _
theorem AH.nxt_set (h : AH) (b : P) (o : AObj) : (h.set b o).nxt = h.nxt := rfl

section
variable {Pr : Program} {B : Nat} {w0 w w' : World} {ρ : En} {h : AH}

/-- a block of ours gets another content -/
theorem WR.put (hw : WR Pr B w0 ρ h w) {p : P} {e : BE} (hp : ρ p = some e) (ho : (h.get p).own = true) {o' : AObj}
    (hb : ∀ b, b ≠ e.a → w'.heap[b]? = w.heap[b]?) (hs : w'.heap.size = w.heap.size) (h1 : w'.os = w.os) (h2 : w'.tape = w.tape) (h3 : w'.output = w.output)
    (hO : O Pr ρ w'.heap[e.a]? o' e) : WR Pr B w0 ρ (h.set p o') w' := by
  have hB := hw.own p e hp ho
  have hlive : (h.get p).live = true := by cases hx : h.get p <;> simp_all [AObj.own, AObj.live]
  refine ⟨hw.below.trans ⟨h1, h2, h3, by omega, fun k hk => hb k (by omega)⟩, by have := hw.base; omega, ?_, ?_, ?_, ?_, ?_, hw.q0⟩
  · intro q e' hq
    rw [AH.get_set]
    by_cases hqp : q = p
    · subst hqp; rw [hp] at hq; cases hq; simpa using hO
    · simp only [hqp, if_false]
      cases hl : (h.get q).live with
      | false => cases hx : h.get q <;> simp_all [AObj.live, O]
      | true =>
        have hne := hw.sep p q e e' (Ne.symm hqp) hp hq ho hl
        rw [hb _ (Ne.symm hne)]
        exact hw.obj q e' hq
  · intro q e' hq; rw [hs]; exact hw.bnd q e' hq
  · intro q e' hq hown
    rw [AH.get_set] at hown
    by_cases hqp : q = p
    · subst hqp; rw [hp] at hq; cases hq; exact hB
    · simp only [hqp, if_false] at hown; exact hw.own q e' hq hown
  · intro q r e1 e2 hqr hq hr hown hl
    rw [AH.get_set] at hown hl
    have hown' : (h.get q).own = true := by
      by_cases hqp : q = p
      · subst hqp; exact ho
      · simpa [hqp] using hown
    have hl' : (h.get r).live = true := by
      by_cases hrp : r = p
      · subst hrp; exact hlive
      · simpa [hrp] using hl
    exact hw.sep q r e1 e2 hqr hq hr hown' hl'
  · intro q hq
    rw [AH.nxt_set] at hq
    obtain ⟨g1, g2⟩ := hw.fresh q hq
    refine ⟨g1, ?_⟩
    rw [AH.get_set]
    by_cases hqp : q = p
    · subst hqp; rw [hp] at g1; cases g1
    · simpa [hqp] using g2

/-- a new block -/
theorem WR.alloc (hw : WR Pr B w0 ρ h w) {o : Obj} {o' : AObj} {e : BE} (he : e.a = w.heap.size) (hh : w'.heap = w.heap.push o)
    (h1 : w'.os = w.os) (h2 : w'.tape = w.tape) (h3 : w'.output = w.output)
    (hO : O Pr (upd ρ h.nxt e) (some o) o' e) : WR Pr B w0 (upd ρ h.nxt e) (h.new o') w' := by
  have hn : ρ h.nxt = none := (hw.fresh h.nxt (Nat.le_refl _)).1
  have hget : ∀ k, k < w.heap.size → w'.heap[k]? = w.heap[k]? := fun k hk => by rw [hh, Array.getElem?_push, if_neg (by omega)]
  have hsz : w'.heap.size = w.heap.size + 1 := by rw [hh]; simp
  refine ⟨hw.below.trans ⟨h1, h2, h3, by omega, fun k hk => hget k (by have := hw.base; omega)⟩, by have := hw.base; omega, ?_, ?_, ?_, ?_, ?_, hw.q0⟩
  · intro q e' hq
    rw [AH.get_new]
    by_cases hqp : q = h.nxt
    · subst hqp; rw [upd_same] at hq; cases hq
      rw [he, hh]; simpa using hO
    · rw [upd_ne hqp] at hq
      simp only [hqp, if_false]
      rw [hget _ (hw.bnd q e' hq)]
      exact (hw.obj q e' hq).mono (.upd e hn)
  · intro q e' hq
    by_cases hqp : q = h.nxt
    · subst hqp; rw [upd_same] at hq; cases hq; omega
    · rw [upd_ne hqp] at hq; have := hw.bnd q e' hq; omega
  · intro q e' hq hown
    by_cases hqp : q = h.nxt
    · subst hqp; rw [upd_same] at hq; cases hq; have := hw.base; omega
    · rw [upd_ne hqp] at hq; rw [AH.get_new] at hown; simp only [hqp, if_false] at hown; exact hw.own q e' hq hown
  · intro q r e1 e2 hqr hq hr hown hl
    rw [AH.get_new] at hown hl
    by_cases hqp : q = h.nxt
    · subst hqp; rw [upd_same] at hq; cases hq
      rw [upd_ne (Ne.symm hqr)] at hr
      have := hw.bnd r e2 hr; omega
    · rw [upd_ne hqp] at hq
      by_cases hrp : r = h.nxt
      · subst hrp; rw [upd_same] at hr; cases hr
        have := hw.bnd q e1 hq; omega
      · rw [upd_ne hrp] at hr
        simp only [hqp, hrp, if_false] at hown hl
        exact hw.sep q r e1 e2 hqr hq hr hown hl
  · intro q hq
    rw [AH.nxt_new, P.toNat_succ] at hq
    have hne : q ≠ h.nxt := fun hh => by subst hh; omega
    obtain ⟨g1, g2⟩ := hw.fresh q (by omega)
    exact ⟨by rw [upd_ne hne]; exact g1, by rw [AH.get_new]; simpa [hne] using g2⟩

theorem WR.evo_alloc (hw : WR Pr B w0 ρ h w) (o' : AObj) (e : BE) : Evo ρ (upd ρ h.nxt e) h (h.new o') := by
  refine ⟨.upd e (hw.fresh h.nxt (Nat.le_refl _)).1, by rw [AH.nxt_new, P.toNat_succ]; omega, fun p hp hn => ?_⟩
  have hne : p ≠ h.nxt := fun hh => by subst hh; omega
  exact ⟨by rw [upd_ne hne]; exact hn, by rw [AH.get_new]; simp [hne]⟩

theorem WR.evo_set (_ : WR Pr B w0 ρ h w) {p : P} {e : BE} (hp : ρ p = some e) (o' : AObj) : Evo ρ ρ h (h.set p o') :=
  ⟨.refl ρ, Nat.le_refl _, fun q _ hn => ⟨hn, by
    rw [AH.get_set]
    have hne : q ≠ p := fun hh => by subst hh; rw [hp] at hn; cases hn
    simp [hne]⟩⟩

/-- the world has drawn -/
theorem WR.drew (hw : WR Pr B w0 ρ h w) (hh : w'.heap = w.heap) (h1 : w'.os = w.os) (h2 : w'.tape = w.tape) (h3 : w'.output = w.output) : WR Pr B w0 ρ h w' := by
  refine ⟨hw.below.trans ⟨h1, h2, h3, by rw [hh]; exact Nat.le_refl _, fun k _ => by rw [hh]⟩, by rw [hh]; exact hw.base, ?_, ?_, hw.own, hw.sep, hw.fresh, hw.q0⟩
  · intro p e hp; rw [hh]; exact hw.obj p e hp
  · intro p e hp; rw [hh]; exact hw.bnd p e hp
end
end Go.Proofs.YtlklnffmhclioaaGreatDoor.Ev

