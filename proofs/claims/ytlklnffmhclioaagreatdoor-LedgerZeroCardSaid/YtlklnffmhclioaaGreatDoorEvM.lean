/- One step of the interpreter is some steps of the machine, whatever is drawn. -/
import Derived.Test.YtlklnffmhclioaaGreatDoorEvD
namespace Go.Proofs.YtlklnffmhclioaaGreatDoor.Ev
open Go.RowKit

/-- the oracle's answers are those of calls -/
structure EnvOk (Pr : Program) (E : Env) : Prop where
  tab : ∀ p c, E.tab p = some c → ∃ f func, p = P.slot f ∧ Pr.funcs[f]? = some func ∧ cFn Pr func = some c
  orc : ∀ p args h v, E.orc p args h = some v → ∃ f func, p = P.slot f ∧ Pr.funcs[f]? = some func ∧ func.body.isSome = true ∧ func.name ≠ "runtime.NumGoroutine" ∧
    ∀ (B : Nat) (w0 : World) (ρ : En) (w : World) (vs : Array Value), GL Pr ρ → WR Pr B w0 ρ h w → VL Pr ρ args vs.toList →
      Calls Pr f vs w fun e w' => ∃ v' ρ', e = .returned v' ∧ V Pr ρ' v v' ∧ WR Pr B w0 ρ' h w' ∧ Evo ρ ρ' h h

section
variable (Pr : Program) (ρ : En)

def PanR (a : APan) (e : PanicEntry) : Prop := V Pr ρ a.v e.v ∧ a.rc = e.recovered ∧ e.goexit = false

def MR : AMode → FrameMode → Prop
  | .run, .run => True
  | .returning, .returning => True
  | .panicking ch, .panicking ch' => All2 (PanR Pr ρ) ch ch'
  | _, _ => False

def RoR : Option P → Option Nat → Prop
  | none, none => True
  | some p, some l => ∃ e, ρ p = some e ∧ e.a = l
  | _, _ => False

/-- the rest of a region whose order is the text's -/
def RegR (n : Nat) (l : List GI) (ops : Array Oper) (is : List Nat) : Prop :=
  ∃ os : List Oper, is.map (ops[·]?) = os.map some ∧ cGIs Pr n ops.toList os = some l

/-- an item that waits behind -/
def ItR (n : Nat) (rs : List Nat) : AItem → Item → Prop
  | .code c, .code C => cCode Pr n rs C = some c
  | .inBlock i, .inBlock j => i = j
  | .inLoop c, .inLoop C => cCode Pr n rs C = some c
  | .inScope c, .inScope C => cCode Pr n rs C = some c
  | .reg l, .inRegion ops is => RegR Pr n l ops is
  | .act l, .inRegion ops is => RegR Pr n l ops is
  | .rf p, .inRangeFunc l => ∃ e, ρ p = some e ∧ e.a = l
  | .erf p, .endRangeFunc l => ∃ e, ρ p = some e ∧ e.a = l
  | .br, .beginRound => True
  | _, _ => False
end

/-- the temporaries and the items of a frame that runs -/
inductive TopR (Pr : Program) (ρ : En) (h : AH) (lo hi : Nat) (n : Nat) (rs : List Nat) (tm : T AV) (todo : List AItem) (tmps : Array Value) (todo' : List Item) : Prop where
  | plain (t : TM Pr ρ n tm tmps) (i : All2 (ItR Pr ρ n rs) todo todo')
  | drawn {l : List GI} {k : List AItem} {ops : Array Oper} {is : List Nat} {k' : List Item} {gis : List GI} {cl : List Cl} {an : List Nat} {pl : List PI} {A : Nat → Bool} {dn op gd : Nat} {pth : Nat → P}
      (e1 : todo = .reg l :: k) (e2 : todo' = .inRegion ops is :: k') (i : All2 (ItR Pr ρ n rs) k k') (s : Sch ops A is) (c : cPI gis pl = some l) (p : planOk ops.size cl an pl dn op gd = true)
      (d : Dr Pr ρ h lo hi n rs ops gis cl an A dn op gd pth tm tmps) (nl : ∀ j, gd.testBit j = true → cl.getD j .acts ≠ .look)
  | acting {gi : GI} {l : List GI} {k : List AItem} {ops : Array Oper} {j : Nat} {is : List Nat} {k' : List Item} {gis : List GI} {cl : List Cl} {an : List Nat} {pl : List PI} {A : Nat → Bool} {dn op gd : Nat} {pth : Nat → P}
      (e1 : todo = .act (gi :: l) :: k) (e2 : todo' = .inRegion ops (j :: is) :: k') (i : All2 (ItR Pr ρ n rs) k k') (s : Sch ops A (j :: is)) (g : gis[j]? = some gi) (dj : dn.testBit j = false) (sb : subB (an.getD j 0) dn = true)
      (c : cPI gis pl = some l) (p : planOk ops.size cl an pl (dn ||| 2 ^ j) op gd = true) (d : Dr Pr ρ h lo hi n rs ops gis cl an A dn op gd pth tm tmps) (nl : ∀ j, gd.testBit j = true → cl.getD j .acts ≠ .look)

structure FrR (Pr : Program) (ρ : En) (h : AH) (lo hi : Nat) (a : AFr) (fr : Frame) : Prop where
  fn : a.mt.fn = P.slot fr.fn
  st : ∃ func, Pr.funcs[fr.fn]? = some func ∧ (a.mt.md = .run → TopR Pr ρ h lo hi func.ntmps (resT func.results.toList) a.tm a.todo fr.tmps fr.todo) ∧
    ∀ t ∈ resT func.results.toList, V Pr ρ (T.get undefA (P.slot t) a.tm) (fr.tmps.getD t undef)
  df : All2 (DR Pr ρ) a.mt.df fr.defers
  md : MR Pr ρ a.mt.md fr.mode
  kd : fr.kind = if a.mt.dk then .deferred else .normal
  ro : RoR ρ a.mt.ro fr.roundOf

section
variable {Pr : Program} {ρ ρ' : En} {h h' : AH}

theorem MR.mono (x : Ext ρ ρ') {a : AMode} {m : FrameMode} (k : MR Pr ρ a m) : MR Pr ρ' a m := by
  cases a <;> cases m <;> try exact k
  exact All2.imp (fun a e ⟨g1, g2⟩ => ⟨g1.mono x, g2⟩) k

theorem RoR.mono (x : Ext ρ ρ') {a : Option P} {m : Option Nat} (k : RoR ρ a m) : RoR ρ' a m := by
  cases a <;> cases m <;> try exact k
  obtain ⟨e, g1, g2⟩ := k
  exact ⟨e, x _ _ g1, g2⟩

theorem ItR.mono (x : Ext ρ ρ') {n : Nat} {rs : List Nat} {a : AItem} {m : Item} (k : ItR Pr ρ n rs a m) : ItR Pr ρ' n rs a m := by
  cases a <;> cases m <;> try exact k
  · obtain ⟨e, g1, g2⟩ := k; exact ⟨e, x _ _ g1, g2⟩
  · obtain ⟨e, g1, g2⟩ := k; exact ⟨e, x _ _ g1, g2⟩

variable {lo hi hi' : Nat}

theorem TopR.mono (x : Ext ρ ρ') (kp : Kept lo hi ρ ρ' h h') (hh : hi ≤ hi') {n : Nat} {rs : List Nat} {tm : T AV} {todo : List AItem} {tmps : Array Value} {todo' : List Item} (k : TopR Pr ρ h lo hi n rs tm todo tmps todo') :
    TopR Pr ρ' h' lo hi' n rs tm todo tmps todo' := by
  cases k with
  | plain t i => exact .plain (t.mono x) (i.imp fun _ _ g => g.mono x)
  | drawn e1 e2 i s c p d nl => exact .drawn e1 e2 (i.imp fun _ _ g => g.mono x) s c p (d.mono nl x kp hh) nl
  | acting e1 e2 i s g dj sb c p d nl => exact .acting e1 e2 (i.imp fun _ _ g => g.mono x) s g dj sb c p (d.mono nl x kp hh) nl

theorem FrR.gen (x : Ext ρ ρ') (kp : Kept lo hi ρ ρ' h h') (hh : hi ≤ hi') {a : AFr} {fr : Frame} (k : FrR Pr ρ h lo hi a fr) : FrR Pr ρ' h' lo hi' a fr := by
  obtain ⟨h1, ⟨func, g1, g2, g3⟩, h3, h4, h5, h6⟩ := k
  exact ⟨h1, ⟨func, g1, fun hm => (g2 hm).mono x kp hh, fun t ht => (g3 t ht).mono x⟩, h3.imp fun _ _ g => g.mono x, h4.mono x, h5, h6.mono x⟩

theorem Evo.kept (x : Evo ρ ρ' h h') (hh : hi ≤ h.nxt.toNat) : Kept lo hi ρ ρ' h h' := fun p _ h2 hp => (x.keep p (Nat.lt_of_lt_of_le h2 hh) hp).imp id .inl
theorem Kept.refl (ρ : En) (h : AH) : Kept lo hi ρ ρ h h := fun _ _ _ hp => ⟨hp, .inl rfl⟩

theorem FrR.mono (x : Evo ρ ρ' h h') {a : AFr} {fr : Frame} (k : FrR Pr ρ h lo h.nxt.toNat a fr) : FrR Pr ρ' h' lo h'.nxt.toNat a fr := k.gen x.ext (x.kept (Nat.le_refl _)) x.nxt
theorem FrR.up {a : AFr} {fr : Frame} (k0 : FrR Pr ρ h lo hi a fr) (hh : hi ≤ hi') : FrR Pr ρ h lo hi' a fr := k0.gen (.refl ρ) (.refl ρ h) hh

/-- the frames that wait: what one of them has not made yet lies below what those above it have not made -/
inductive Rs (Pr : Program) (ρ : En) (h : AH) : Nat → List AFr → List Frame → Prop where
  | nil {N : Nat} : Rs Pr ρ h N [] []
  | cons {N lo : Nat} {a : AFr} {fr : Frame} {l : List AFr} {r : List Frame} (hl : lo ≤ N) (hf : FrR Pr ρ h lo N a fr) (t : Rs Pr ρ h lo l r) : Rs Pr ρ h N (a :: l) (fr :: r)

theorem Kept.less {lo' : Nat} (kp : Kept lo hi ρ ρ' h h') (h1 : lo ≤ lo') (h2 : hi' ≤ hi) : Kept lo' hi' ρ ρ' h h' := fun p q1 q2 hp => kp p (Nat.le_trans h1 q1) (Nat.lt_of_lt_of_le q2 h2) hp

theorem Rs.gen (x : Ext ρ ρ') : ∀ {N : Nat} {l : List AFr} {r : List Frame}, Kept 0 N ρ ρ' h h' → Rs Pr ρ h N l r → Rs Pr ρ' h' N l r
  | _, _, _, _, .nil => .nil
  | _, _, _, kp, .cons hl hf t => .cons hl (hf.gen x (kp.less (Nat.zero_le _) (Nat.le_refl _)) (Nat.le_refl _)) (Rs.gen x (kp.less (Nat.le_refl _) hl) t)

theorem Rs.mono (x : Evo ρ ρ' h h') {N : Nat} (hN : N ≤ h.nxt.toNat) {l : List AFr} {r : List Frame} (k : Rs Pr ρ h N l r) : Rs Pr ρ' h' N l r := k.gen x.ext (x.kept hN)
end

/-- the interpreter's state, and the machine -/
structure St (Pr : Program) (B : Nat) (w0 : World) (tail : List Frame) (tm : T AV) (todo : List AItem) (mt : AMeta) (cs : List AFr) (h : AH) (fr : Frame) (css : List Frame) (w : World) (ρ : En) (lo : Nat) : Prop where
  top : FrR Pr ρ h lo h.nxt.toNat ⟨tm, todo, mt⟩ fr
  rest : Rs Pr ρ h lo cs css
  wr : WR Pr B w0 ρ h w
  gl : GL Pr ρ
  hlo : lo ≤ h.nxt.toNat

def Res1 (Pr : Program) (B : Nat) (w0 : World) (tail : List Frame) (m : Machine) : R → Prop
  | .next tm todo mt cs h => ∃ fr css w ρ, Steps Pr m (lone fr (css ++ tail) w) ∧ ∃ lo, St Pr B w0 tail tm todo mt cs h fr css w ρ lo
  | .done p v h => ∃ fr w ρ v', Steps Pr m (lone fr tail w) ∧ p = P.slot fr.fn ∧ fr.leaving Pr w (.returned v') ∧ V Pr ρ v v' ∧ WR Pr B w0 ρ h w
  | .many _ => False
  | .fail _ => True

def ResR (Pr : Program) (B : Nat) (w0 : World) (tail : List Frame) (m : Machine) : R → Prop
  | .many l => ∃ r ∈ l, Res1 Pr B w0 tail m r
  | r => Res1 Pr B w0 tail m r

section
variable {Pr : Program} {B : Nat} {w0 w : World} {tail : List Frame} {ρ : En} {h : AH}

theorem Res1.up {m : Machine} {r : R} (k : Res1 Pr B w0 tail m r) : ResR Pr B w0 tail m r := by
  cases r <;> first | exact k | exact k.elim

theorem Res1.of_steps {m m' : Machine} {r : R} (s : Steps Pr m m') (k : Res1 Pr B w0 tail m' r) : Res1 Pr B w0 tail m r := by
  cases r with
  | next tm todo mt cs h => obtain ⟨fr, css, w, ρ, g1, g2⟩ := k; exact ⟨fr, css, w, ρ, s.trans g1, g2⟩
  | done p v h => obtain ⟨fr, w, ρ, v', g1, g2⟩ := k; exact ⟨fr, w, ρ, v', s.trans g1, g2⟩
  | many _ => exact k
  | fail _ => trivial

theorem ResR.of_steps {m m' : Machine} {r : R} (s : Steps Pr m m') (k : ResR Pr B w0 tail m' r) : ResR Pr B w0 tail m r := by
  cases r with
  | many l => obtain ⟨r, g1, g2⟩ := k; exact ⟨r, g1, g2.of_steps s⟩
  | _ => exact Res1.up (Res1.of_steps s k)

-- exits, labels
theorem exitA_sound (id : Nat) {n : Nat} {rs : List Nat} : ∀ {a : List AItem} {m : List Item}, All2 (ItR Pr ρ n rs) a m →
    match exitA id a with
    | some k => ∃ k', exitTo id m = some k' ∧ All2 (ItR Pr ρ n rs) k k'
    | none => exitTo id m = none
  | _, _, .nil => rfl
  | x :: a, y :: m, .cons hx ht => by
    have ih := exitA_sound id ht
    cases x <;> cases y <;> first | exact hx.elim | skip
    all_goals (try exact ih)
    rename_i i j
    have hx : i = j := hx
    subst hx
    simp only [exitA, exitTo]
    cases hb : Nat.beq i id with
    | true =>
      have : i = id := Nat.eq_of_beq_eq_true hb
      subst this
      simp only [cond_true, beq_self_eq_true, if_true]
      exact ⟨m, rfl, ht⟩
    | false =>
      have : ¬ i = id := fun e => by subst e; simp at hb
      have hb' : (i == id) = false := by simpa using this
      simp only [cond_false, hb', Bool.false_eq_true, if_false]
      exact ih

theorem findLab_sound (l : Nat) {n : Nat} {rs : List Nat} : ∀ {C : Code} {c : CC}, cCode Pr n rs C = some c →
    match findLab c l with
    | some r => ∃ r', findLabel C l = some r' ∧ cCode Pr n rs r' = some r
    | none => findLabel C l = none := by
  intro C
  induction C with
  | seq a b iha ihb =>
    intro c hc
    simp only [cCode] at hc
    cases ha : cCode Pr n rs a with
    | none => rw [ha] at hc; cases hc
    | some a' =>
    cases hb : cCode Pr n rs b with
    | none => rw [ha, hb] at hc; cases hc
    | some b' =>
    rw [ha, hb] at hc; cases hc
    have ia := iha ha
    have ib := ihb hb
    simp only [findLab, findLabel]
    cases hfa : findLab a' l with
    | some r =>
      rw [hfa] at ia
      obtain ⟨r', g1, g2⟩ := ia
      exact ⟨.seq r' b, by rw [g1], by simp only [cCode, g2, hb]⟩
    | none =>
      rw [hfa] at ia
      simp only at ia ⊢
      rw [ia]
      exact ib
  | label l' =>
    intro c hc
    cases hc
    simp only [findLab, findLabel]
    cases hb : Nat.beq l' l with
    | true =>
      have : l' = l := Nat.eq_of_beq_eq_true hb
      subst this
      exact ⟨.skip, by simp, rfl⟩
    | false =>
      have : ¬ l' = l := fun e => by subst e; simp at hb
      simp [this]
  | _ =>
    intro c hc
    simp only [cCode, Option.map_eq_some_iff] at hc
    first
    | (obtain ⟨d, _, rfl⟩ := hc; rfl)
    | (cases hc; rfl)
    | (split at hc <;> first | (cases hc; done) | skip
       first
       | (cases hc; rfl)
       | (split at hc <;> first | (cases hc; done) | (cases hc; rfl)))

theorem gotoA_sound (l : Nat) {n : Nat} {rs : List Nat} : ∀ {a : List AItem} {m : List Item}, All2 (ItR Pr ρ n rs) a m →
    match gotoA l a with
    | some k => ∃ k', gotoIn l m = some k' ∧ All2 (ItR Pr ρ n rs) k k'
    | none => gotoIn l m = none
  | _, _, .nil => rfl
  | x :: a, y :: m, .cons hx ht => by
    have ih := gotoA_sound l ht
    cases x <;> cases y <;> first | exact hx.elim | skip
    all_goals (try exact ih)
    rename_i c C
    have hf := findLab_sound (Pr := Pr) l hx
    simp only [gotoA, gotoIn]
    cases hfl : findLab c l with
    | some r =>
      rw [hfl] at hf
      obtain ⟨r', g1, g2⟩ := hf
      simp only
      rw [g1]
      exact ⟨_, rfl, .cons g2 (.cons hx ht)⟩
    | none =>
      rw [hfl] at hf
      simp only at hf ⊢
      rw [hf]
      exact ih
end
end Go.Proofs.YtlklnffmhclioaaGreatDoor.Ev

namespace Go.Proofs.YtlklnffmhclioaaGreatDoor.Ev
open Go.RowKit

section
variable {Pr : Program} {B : Nat} {w0 w : World} {tail : List Frame} {ρ : En} {h : AH} {lo hi : Nat}

theorem isRun_eq {m : AMode} (h : isRun m = true) : m = .run := by cases m <;> first | rfl | cases h

theorem RegR.cons {n : Nat} {gi : GI} {l : List GI} {ops : Array Oper} {is : List Nat} (hr : RegR Pr n (gi :: l) ops is) :
    ∃ i is' o, is = i :: is' ∧ ops[i]? = some o ∧ cGI Pr n ops.toList o = some gi ∧ RegR Pr n l ops is' := by
  obtain ⟨os, h1, h2⟩ := hr
  obtain ⟨o, r, rfl, g1, g2⟩ := cGIs_cons h2
  cases is with
  | nil => simp at h1
  | cons i is' =>
    simp only [List.map_cons, List.cons.injEq] at h1
    exact ⟨i, is', o, rfl, h1.1, g1, r, h1.2, g2⟩

theorem RegR.nil {n : Nat} {ops : Array Oper} {is : List Nat} (hr : RegR Pr n [] ops is) : is = [] := by
  obtain ⟨os, h1, h2⟩ := hr
  rw [cGIs_nil h2] at h1
  simpa using h1

theorem TM.putD {n : Nat} {tm : T AV} {tmps : Array Value} (k : TM Pr ρ n tm tmps) {o : Oper} {gd : Option P} (hd : gd = o.dst.map P.slot) (hn : ∀ d, o.dst = some d → d < n) {a : AV} {v : Value} (hv : V Pr ρ a v) :
    TM Pr ρ n (putD tm a gd) (match o.dst with | some d => tmps.setIfInBounds d v | none => tmps) := by
  cases hd' : o.dst with
  | none => rw [hd'] at hd; subst hd; exact k
  | some d => rw [hd'] at hd; subst hd; exact k.put (hn d hd') hv

theorem FrR.run {a : AFr} {fr : Frame} (k : FrR Pr ρ h lo hi a fr) (hm : a.mt.md = .run) : fr.mode = .run := by
  have := k.md
  rw [hm] at this
  cases hf : fr.mode <;> rw [hf] at this <;> first | rfl | exact this.elim

theorem finish_sim {a a' : AFr} {fr : Frame} (k : FrR Pr ρ h lo hi a fr) {x : AV} {v : Value} (hv : V Pr ρ x v) (hf : finishA a x = some a') : FrR Pr ρ h lo hi a' (fr.finish v) := by
  obtain ⟨tm, todo, mt⟩ := a
  simp only [finishA] at hf
  cases hr : isRun mt.md with
  | false => rw [hr] at hf; cases hf
  | true =>
  rw [hr] at hf
  simp only [cond_true] at hf
  have hmd := isRun_eq hr
  obtain ⟨k1, ⟨func, g1, g2, g3⟩, k3, k4, k5, k6⟩ := k
  cases g2 hmd with
  | drawn e1 e2 i s c p d nl => simp only at e1; rw [e1] at hf; cases hf
  | acting e1 e2 i s g dj sb c p d nl =>
    rename_i gi l k ops j is k' gis cl an pl A dn op gd pth
    simp only at e1 d
    subst e1
    cases hf
    obtain ⟨fn, tmps, todo', defers, mode, kind, ro⟩ := fr
    simp only at *
    subst e2
    cases s with
    | cons hi hn hb s' =>
    obtain ⟨o, ho⟩ := DC.ex hi
    have hd := d.done nl ho g dj sb (fun e he hbe => hb o e ho he hbe) (.refl ρ) (.refl ρ h) (Nat.le_refl _) hv
    have he : (Frame.finish ⟨fn, tmps, .inRegion ops (j :: is) :: k', defers, mode, kind, ro⟩ v) =
        ⟨fn, (match o.dst with | some d => tmps.setIfInBounds d v | none => tmps), .inRegion ops is :: k', defers, mode, kind, ro⟩ := by
      simp only [Frame.finish, ho, Option.bind_some]
      cases o.dst <;> rfl
    rw [he]
    exact ⟨k1, ⟨func, g1, fun _ => .drawn rfl rfl i s' c p hd nl, fun t' ht' => hd.resV ht'⟩, k3, k4, k5, k6⟩
  | plain t i =>
    obtain ⟨fn, tmps, todo', defers, mode, kind, ro⟩ := fr
    simp only at *
    cases i with
    | nil => cases hf
    | cons hx hi =>
      rename_i x y l r
      cases x <;> first | (cases hf; done) | skip
      · -- a region
        rename_i gis
        cases y <;> first | exact hx.elim | skip
        rename_i ops is
        cases gis with
        | nil => cases hf
        | cons gi rest =>
          cases hf
          obtain ⟨i, is', o, rfl, ho, hgi, hrest⟩ := RegR.cons hx
          obtain ⟨c1, c2, c3, c4, c5⟩ := cGI_spec hgi
          have ht := t.putD c3 c4 hv
          have he : (Frame.finish ⟨fn, tmps, .inRegion ops (i :: is') :: r, defers, mode, kind, ro⟩ v) =
              ⟨fn, (match o.dst with | some d => tmps.setIfInBounds d v | none => tmps), .inRegion ops is' :: r, defers, mode, kind, ro⟩ := by
            simp only [Frame.finish, ho, Option.bind_some]
            cases o.dst <;> rfl
          rw [he]
          exact ⟨k1, ⟨func, g1, fun _ => .plain ht (.cons hrest hi), fun t' _ => ht.2 t'⟩, k3, k4, k5, k6⟩
      · rename_i p
        cases y <;> first | exact hx.elim | skip
        rename_i lp
        cases hf
        exact ⟨k1, ⟨func, g1, fun _ => .plain t (.cons hx hi), g3⟩, k3, k4, k5, k6⟩

/-- a frame that runs, with other items -/
theorem FrR.to {tm : T AV} {todo : List AItem} {mt : AMeta} {fr : Frame} (k : FrR Pr ρ h lo hi ⟨tm, todo, mt⟩ fr) {func : Func} (hf : Pr.funcs[fr.fn]? = some func) (t : TM Pr ρ func.ntmps tm fr.tmps) {todo2 : List AItem} {todo2' : List Item}
    (i : All2 (ItR Pr ρ func.ntmps (resT func.results.toList)) todo2 todo2') : FrR Pr ρ h lo hi ⟨tm, todo2, mt⟩ { fr with todo := todo2' } := by
  obtain ⟨k1, ⟨func', g1, g2, g3⟩, k3, k4, k5, k6⟩ := k
  rw [hf] at g1; cases g1
  exact ⟨k1, ⟨func, hf, fun _ => .plain t i, g3⟩, k3, k4, k5, k6⟩

theorem atR_self {fr : Frame} (hm : fr.mode = .run) {todo : List Item} (ht : fr.todo = todo) : fr.atR ⟨fr.tmps, fr.defers⟩ todo = fr := by
  obtain ⟨fn, tmps, todo', defers, mode, kind, ro⟩ := fr
  simp only at *
  subst hm ht
  rfl

theorem finish_mode {fr : Frame} {v : Value} : (fr.finish v).mode = fr.mode := by
  unfold Frame.finish
  split <;> rfl

/-- behind a round, or at a frame's end -/
theorem leaveA_sim {tm : T AV} {todo : List AItem} {mt : AMeta} {cs : List AFr} {fr : Frame} {css : List Frame} (s : St Pr B w0 tail tm todo mt cs h fr css w ρ lo) (_ : mt.md = .run) {j : Jmp} {jc : Option Code}
    (hj : JR j jc)
    (h1 : fr.roundOf = none → (jc = none ∨ jc = some .ret) → step Pr (lone fr (css ++ tail) w) = .next (lone { fr with mode := .returning } (css ++ tail) w))
    (h2 : ∀ l c cs v w', fr.roundOf = some l → fr.kind = .normal → css ++ tail = c :: cs → (Instr.endRound l jc).run Pr w = .ok v w' → step Pr (lone fr (css ++ tail) w) = .next (lone (c.finish v) cs w')) :
    Res1 Pr B w0 tail (lone fr (css ++ tail) w) (leaveA tm mt cs h j) := by
  obtain ⟨top, rest, wr, gl, hlo⟩ := s
  unfold leaveA
  have hro := top.ro
  cases hro' : mt.ro with
  | none =>
    simp only [hro'] at hro
    have hr : fr.roundOf = none := by
      cases hf : fr.roundOf with
      | none => rfl
      | some _ => rw [hf] at hro; exact hro.elim
    have fin : (jc = none ∨ jc = some .ret) → Res1 Pr B w0 tail (lone fr (css ++ tail) w) (.next tm [] ⟨mt.fn, mt.df, .returning, mt.dk, none⟩ cs h) := by
      intro hjc
      refine ⟨{ fr with mode := .returning }, css, w, ρ, .one (h1 hr hjc), lo, ⟨?_, rest, wr, gl, hlo⟩⟩
      obtain ⟨k1, ⟨func, g1, g2, g3⟩, k3, k4, k5, k6⟩ := top
      refine ⟨k1, ⟨func, g1, fun hh => (by cases hh), g3⟩, k3, trivial, k5, ?_⟩
      show RoR ρ none fr.roundOf
      rw [hr]; trivial
    cases j with
    | exit _ => trivial
    | goto _ => trivial
    | none => exact fin (.inl hj)
    | ret => exact fin (.inr hj)
  | some p =>
    simp only [hro'] at hro
    simp only
    cases hf : fr.roundOf with
    | none => rw [hf] at hro; exact hro.elim
    | some l =>
    rw [hf] at hro
    obtain ⟨e, e1, e2⟩ := hro
    subst e2
    cases hg : h.get p with
    | loop st pend fn t ps a b d =>
      simp only
      have hO := wr.obj p e e1
      rw [hg] at hO
      obtain ⟨L, o1, o2⟩ := hO
      have key : ∀ (st' : LS) (j' : Jmp), LSR st' (if jc.isNone then .ready else .done) → JR j' jc → Res1 Pr B w0 tail (lone fr (css ++ tail) w) (retB mt cs (.bool jc.isNone) (h.set p (.loop st' j' fn t ps a b d))) := by
        intro st' j' hst hj'
        unfold retB
        cases cs with
        | nil => trivial
        | cons c cs' =>
          cases hdk : mt.dk with
          | true => trivial
          | false =>
            simp only [cond_false]
            cases hfin : finishA c (.bool jc.isNone) with
            | none => trivial
            | some c' =>
              cases rest with
              | cons hl hc hrest =>
                rename_i lo2 fc fcs
                obtain ⟨p1, p2, p3⟩ := wr.objPut e1 (by rw [hg]; rfl) o1 (by simp) (o' := .loop { L with state := if jc.isNone then .ready else .done, pending := jc }) (ao := .loop st' j' fn t ps a b d)
                  ⟨_, rfl, ⟨hst, hj', o2.fn, o2.tms, o2.ps, o2.df⟩⟩
                have hend : ∀ w', (setObj e.a (.loop { L with state := if jc.isNone then .ready else .done, pending := jc })).run Pr w = .ok () w' → (Instr.endRound e.a jc).run Pr w = .ok (.bool jc.isNone) w' := by
                  intro w' hw'
                  have hgo : (getObj e.a).run Pr w = .ok (.loop L) w := by simp [getObj, Sem.run, o1]
                  simp only [Instr.endRound, Instr.getLoop, Sem.run_bind, hgo, Result.andThen_ok, Sem.run_pure, hw']
                have hkind : fr.kind = .normal := by have := top.kd; simp only [hdk] at this; simpa using this
                refine ⟨fc.finish (.bool jc.isNone), fcs, _, ρ, .one (h2 e.a fc (fcs ++ tail) _ _ hf hkind rfl (hend _ p1)), lo2, ⟨?_, ?_, p2, gl, Nat.le_trans hl (Nat.le_trans hlo p3.nxt)⟩⟩
                · exact finish_sim ((hc.up hlo).mono p3) (.bool _) hfin
                · exact hrest.mono p3 (Nat.le_trans hl hlo)
      cases j with
      | none => have hj : jc = none := hj
                subst hj; exact key .ready .none trivial rfl
      | ret => have hj : jc = some .ret := hj
               subst hj; exact key .done .ret trivial rfl
      | exit id => have hj : jc = some (.exit id) := hj
                   subst hj; exact key .done (.exit id) trivial rfl
      | goto l => have hj : jc = some (.goto l) := hj
                  subst hj; exact key .done (.goto l) trivial rfl
    | _ => trivial

end
end Go.Proofs.YtlklnffmhclioaaGreatDoor.Ev

namespace Go.Proofs.YtlklnffmhclioaaGreatDoor.Ev
open Go.RowKit

section
variable {Pr : Program} {B : Nat} {w0 w : World} {tail : List Frame} {ρ : En} {h : AH}

def act (fr : Frame) : Act := ⟨fr.tmps, fr.defers⟩

theorem step_skipped {fr : Frame} (hm : fr.mode = .run) {ops : Array Oper} {i : Nat} {is : List Nat} {k : List Item} (ht : fr.todo = .inRegion ops (i :: is) :: k)
    (hw : ((ops[i]?).map (Region.wanted · (yielded ops fr.tmps))).getD false = false) (cs : List Frame) : step Pr (lone fr cs w) = .next (lone (fr.finish undef) cs w) := by
  have := stepR_op_skip (P := Pr) (b := fr) (a := act fr) (k := k) (cs := cs) (w := w) (ops := ops) (i := i) (rest := is) hw
  have e1 : fr.atR (act fr) (.inRegion ops (i :: is) :: k) = fr := atR_self hm ht
  rw [← Frame.finish_atR, e1] at this
  exact this

theorem stepG_op' {fr : Frame} (hm : fr.mode = .run) {ops : Array Oper} {i : Nat} {is : List Nat} {k : List Item} (ht : fr.todo = .inRegion ops (i :: is) :: k) {o : Oper} (ho : ops[i]? = some o)
    (hw : Region.wanted o (yielded ops fr.tmps) = true) (hd : fr.roundOf = none ∨ ∀ c, o.op ≠ .defer c) (cs : List Frame) :
    stepG Pr true { frame := fr, callers := cs, status := .running, dying := none } w = stepG.apply Pr true fr cs none (execOp (act fr).eval o) w := by
  have := stepGR_op (P := Pr) (b := fr) (a := act fr) (k := k) (cs := cs) (w := w) (ops := ops) (i := i) (rest := is) ho hw
  have e1 : fr.atR (act fr) (.inRegion ops (i :: is) :: k) = fr := atR_self hm ht
  rw [e1] at this
  rw [this]
  congr 1
  rcases hd with hd | hd
  · rw [hd]; rfl
  · exact Oper.semAt_eq _ _ _ hd

theorem step_gives {fr : Frame} (hm : fr.mode = .run) {ops : Array Oper} {i : Nat} {is : List Nat} {k : List Item} (ht : fr.todo = .inRegion ops (i :: is) :: k) {o : Oper} (ho : ops[i]? = some o)
    (hw : Region.wanted o (yielded ops fr.tmps) = true) (hd : fr.roundOf = none ∨ ∀ c, o.op ≠ .defer c) (cs : List Frame) {v : Value} {w' : World} (hg : Gives ((execOp (act fr).eval o).run Pr w) v w') :
    step Pr (lone fr cs w) = .next (lone (fr.finish v) cs w') := by
  refine step_lone_go ?_
  rw [stepG_op' hm ht ho hw hd]
  rcases hg with hg | ⟨hg, rfl⟩ <;> simp [stepG.apply, Sem.runT_eq, hg]

theorem step_enters {fr : Frame} (hm : fr.mode = .run) {ops : Array Oper} {i : Nat} {is : List Nat} {k : List Item} (ht : fr.todo = .inRegion ops (i :: is) :: k) {o : Oper} (ho : ops[i]? = some o)
    (hw : Region.wanted o (yielded ops fr.tmps) = true) (hd : fr.roundOf = none ∨ ∀ c, o.op ≠ .defer c) (cs : List Frame) {f : FuncId} {vs : Array Value} {w' : World} (hg : (execOp (act fr).eval o).run Pr w = .ok (.enter f vs) w') :
    step Pr (lone fr cs w) = .next (lone (Frame.enter Pr f vs .normal) (fr :: cs) w') := by
  refine step_lone_go ?_
  rw [stepG_op' hm ht ho hw hd]
  simp [stepG.apply, Sem.runT_eq, hg, ht]

theorem step_rounds {fr : Frame} (hm : fr.mode = .run) {ops : Array Oper} {i : Nat} {is : List Nat} {k : List Item} (ht : fr.todo = .inRegion ops (i :: is) :: k) {o : Oper} (ho : ops[i]? = some o)
    (hw : Region.wanted o (yielded ops fr.tmps) = true) (hd : fr.roundOf = none ∨ ∀ c, o.op ≠ .defer c) (cs : List Frame) {l : Nat} {f : FuncId} {tmps : Array Value} {as bd : Code} {w' : World} (hg : (execOp (act fr).eval o).run Pr w = .ok (.round l f tmps as bd) w') :
    step Pr (lone fr cs w) = .next (lone (Frame.round l f tmps as bd .normal) (fr :: cs) w') := by
  refine step_lone_go ?_
  rw [stepG_op' hm ht ho hw hd]
  simp [stepG.apply, Sem.runT_eq, hg]

theorem step_defers {fr : Frame} (hm : fr.mode = .run) {ops : Array Oper} {i : Nat} {is : List Nat} {k : List Item} (ht : fr.todo = .inRegion ops (i :: is) :: k) {o : Oper} (ho : ops[i]? = some o)
    (hw : Region.wanted o (yielded ops fr.tmps) = true) (hd : fr.roundOf = none ∨ ∀ c, o.op ≠ .defer c) (cs : List Frame) {d : Deferred} {w' : World} (hg : (execOp (act fr).eval o).run Pr w = .ok (.defer d) w') :
    step Pr (lone fr cs w) = .next (lone ({ fr with defers := d :: fr.defers }.finish undef) cs w') := by
  refine step_lone_go ?_
  rw [stepG_op' hm ht ho hw hd]
  simp [stepG.apply, Sem.runT_eq, hg]

theorem step_panics {fr : Frame} (hm : fr.mode = .run) {ops : Array Oper} {i : Nat} {is : List Nat} {k : List Item} (ht : fr.todo = .inRegion ops (i :: is) :: k) {o : Oper} (ho : ops[i]? = some o)
    (hw : Region.wanted o (yielded ops fr.tmps) = true) (hd : fr.roundOf = none ∨ ∀ c, o.op ≠ .defer c) (cs : List Frame) {v : Value} {w' : World} (hg : (execOp (act fr).eval o).run Pr w = .halt (.panic v) w') :
    step Pr (lone fr cs w) = .next (lone (fr.raise [{ v, recovered := false }]) cs w') := by
  refine step_lone_go ?_
  rw [stepG_op' hm ht ho hw hd]
  simp [stepG.apply, Sem.runT_eq, hg]

/-- a guard reads the same -/
theorem want_eqV {tm : T AV} {tmps : Array Value} {ops : Array Oper} {o : Oper} {gi : GI}
    (hg : (o.guard = none ∧ gi.g = none) ∨ ∃ j w q d, o.guard = some (j, w) ∧ ops.toList[j]? = some q ∧ q.dst = some d ∧ gi.g = some (P.slot d, w))
    (t : ∀ j w q d, o.guard = some (j, w) → ops.toList[j]? = some q → q.dst = some d → V Pr ρ (T.get undefA (P.slot d) tm) (tmps.getD d undef)) : want tm gi.g = Region.wanted o (yielded ops tmps) := by
  rcases hg with ⟨h1, h2⟩ | ⟨j, w, q, d, h1, h2, h3, h4⟩
  · rw [h2]; simp [Region.wanted, h1]; rfl
  · rw [h4]
    have hq : ops[j]? = some q := by simpa using h2
    show want1 tm (P.slot d, w) = _
    have hy : yielded ops tmps j = match tmps[d]? with | some (.bool b) => some b | _ => none := by simp [yielded, hq, h3]; rfl
    simp only [Region.wanted, h1, hy, want1]
    have hv := t j w q d h1 h2 h3
    cases hd : tmps[d]? with
    | none =>
      have : tmps.getD d undef = undef := by simp [Array.getD_eq_getD_getElem?, hd]
      rw [this] at hv
      generalize T.get undefA (P.slot d) tm = a at hv
      cases hv with
      | tup _ => rfl
    | some x =>
      have : tmps.getD d undef = x := by simp [Array.getD_eq_getD_getElem?, hd]
      rw [this] at hv
      generalize T.get undefA (P.slot d) tm = a at hv
      cases hv <;> first | rfl | skip
      rename_i b
      cases b <;> cases w <;> rfl

theorem want_eq {n : Nat} {tm : T AV} {tmps : Array Value} (t : TM Pr ρ n tm tmps) {ops : Array Oper} {o : Oper} {gi : GI}
    (hg : (o.guard = none ∧ gi.g = none) ∨ ∃ j w q d, o.guard = some (j, w) ∧ ops.toList[j]? = some q ∧ q.dst = some d ∧ gi.g = some (P.slot d, w)) : want tm gi.g = Region.wanted o (yielded ops tmps) :=
  want_eqV hg fun _ _ _ d _ _ _ => t.2 d

theorem ins_eq {tm : T AV} {i : Ins} (hk : isChk i = false) : ins tm h i = ins1 tm h i := by cases i <;> first | rfl | cases hk

theorem dfr_ins {c : Call} {i : Ins} (hc : cOp Pr (.defer c) = some i) (tm : T AV) : (∃ d, ins1 tm h i = .defer d) ∨ ∃ n, ins1 tm h i = .fail n := by
  obtain ⟨callee, args, ats⟩ := c
  cases callee with
  | value f =>
    simp only [cOp] at hc
    obtain ⟨a, ha, hc⟩ := bind_some hc
    obtain ⟨b, hb, hc⟩ := bind_some hc
    cases hc
    show (∃ d, iDfr (opd tm a) (opds tm b) = .defer d) ∨ ∃ n, iDfr (opd tm a) (opds tm b) = .fail n
    unfold iDfr
    cases opd tm a with
    | fn p x y => exact .inl ⟨_, rfl⟩
    | _ => exact .inr ⟨_, rfl⟩
  | _ => simp [cOp] at hc

/-- where a region stops: at an operation that is in the making -/
structure Stops (Pr : Program) (B : Nat) (w0 : World) (tail : List Frame) (tm : T AV) (rest : List GI) (k : List AItem) (mt : AMeta) (cs : List AFr) (h : AH) (fr : Frame) (css : List Frame) (w : World) (ρ : En) (lo : Nat) (r : IR) : Prop where
  st : St Pr B w0 tail tm (.act rest :: k) mt cs h fr css w ρ lo
  at' : ∃ ops i is k' o, fr.todo = .inRegion ops (i :: is) :: k' ∧ ops[i]? = some o ∧ Region.wanted o (yielded ops fr.tmps) = true ∧
    Snd Pr B w0 ρ h w ((execOp (act fr).eval o).run Pr w) r ∧ ((∀ d, r ≠ .defer d) → (∀ n, r ≠ .fail n) → ∀ c, o.op ≠ .defer c)

theorem region_sim {mt : AMeta} {cs : List AFr} {k : List AItem} (hm : mt.md = .run) : ∀ (l : List GI) {tm : T AV} {h : AH} {fr : Frame} {css : List Frame} {w : World} {ρ : En} {lo : Nat} {ops : Array Oper} {is : List Nat} {k' : List Item} {func : Func},
    St Pr B w0 tail tm (.reg l :: k) mt cs h fr css w ρ lo → Pr.funcs[fr.fn]? = some func → TM Pr ρ func.ntmps tm fr.tmps → fr.todo = .inRegion ops is :: k' → RegR Pr func.ntmps l ops is → All2 (ItR Pr ρ func.ntmps (resT func.results.toList)) k k' →
    match region tm h l with
    | .fin tm' h' => ∃ fr' w' ρ', Steps Pr (lone fr (css ++ tail) w) (lone fr' (css ++ tail) w') ∧ ∃ lo, St Pr B w0 tail tm' k mt cs h' fr' css w' ρ' lo
    | .stop tm' h' rest r => (∃ n, r = .fail n) ∨ ∃ fr' w' ρ', Steps Pr (lone fr (css ++ tail) w) (lone fr' (css ++ tail) w') ∧ ∃ lo, Stops Pr B w0 tail tm' rest k mt cs h' fr' css w' ρ' lo r
  | [], tm, h, fr, css, w, ρ, lo, ops, is, k', func, s, hf, t, ht, hr, hi => by
    show ∃ fr' w' ρ', Steps Pr (lone fr (css ++ tail) w) (lone fr' (css ++ tail) w') ∧ ∃ lo, St Pr B w0 tail tm k mt cs h fr' css w' ρ' lo
    have his := hr.nil
    subst his
    have hmode := s.top.run hm
    have hs := stepR_region_end (P := Pr) (b := fr) (a := act fr) (k := k') (cs := css ++ tail) (w := w) (ops := ops)
    have e1 : fr.atR (act fr) (.inRegion ops [] :: k') = fr := atR_self hmode ht
    have e2 : fr.atR (act fr) k' = { fr with todo := k' } := by
      obtain ⟨fn, tmps, todo', defers, mode, kind, ro⟩ := fr
      simp only at hmode; subst hmode; rfl
    rw [e1, e2] at hs
    exact ⟨_, w, ρ, .one hs, lo, ⟨s.top.to hf t hi, s.rest, s.wr, s.gl, s.hlo⟩⟩
  | gi :: rest, tm, h, fr, css, w, ρ, lo, ops, is, k', func, s, hf, t, ht, hr, hi => by
    obtain ⟨i, is', o, rfl, ho, hgi, hrest⟩ := hr.cons
    obtain ⟨c1, c2, c3, c4, c5⟩ := cGI_spec hgi
    have hmode := s.top.run hm
    have hwe := want_eq t c5
    have htop2 : FrR Pr ρ h lo h.nxt.toNat ⟨tm, .act (gi :: rest) :: k, mt⟩ fr := s.top.to hf t (todo2 := .act (gi :: rest) :: k) (todo2' := fr.todo) (by rw [ht]; exact .cons hr hi)
    -- how it goes on behind the operation
    have on : ∀ {x : AV} {v : Value} {h2 : AH} {w2 : World} {ρ2 : En}, step Pr (lone fr (css ++ tail) w) = .next (lone (fr.finish v) (css ++ tail) w2) → V Pr ρ2 x v → WR Pr B w0 ρ2 h2 w2 → Evo ρ ρ2 h h2 →
        match region (putD tm x gi.d) h2 rest with
        | .fin tm' h' => ∃ fr' w' ρ', Steps Pr (lone fr (css ++ tail) w) (lone fr' (css ++ tail) w') ∧ ∃ lo, St Pr B w0 tail tm' k mt cs h' fr' css w' ρ' lo
        | .stop tm' h' rest r => (∃ n, r = .fail n) ∨ ∃ fr' w' ρ', Steps Pr (lone fr (css ++ tail) w) (lone fr' (css ++ tail) w') ∧ ∃ lo, Stops Pr B w0 tail tm' rest k mt cs h' fr' css w' ρ' lo r := by
      intro x v h2 w2 ρ2 hs hv hw2 hev
      have hfin : finishA ⟨tm, .act (gi :: rest) :: k, mt⟩ x = some ⟨putD tm x gi.d, .reg rest :: k, mt⟩ := by simp [finishA, hm, isRun]
      have htop := finish_sim (htop2.mono hev) hv hfin
      have hfe : fr.finish v = { fr with tmps := (match o.dst with | some d => fr.tmps.setIfInBounds d v | none => fr.tmps), todo := .inRegion ops is' :: k' } := by
        simp only [Frame.finish, ht, ho, Option.bind_some]
        cases o.dst <;> rfl
      have ih := region_sim hm rest (tm := putD tm x gi.d) (h := h2) (fr := fr.finish v) (css := css) (w := w2) (ρ := ρ2) (ops := ops) (is := is') (k' := k') (func := func)
        ⟨htop, s.rest.mono hev s.hlo, hw2, s.gl.mono hev.ext, Nat.le_trans s.hlo hev.nxt⟩ (by rw [hfe]; exact hf) (by rw [hfe]; exact (t.mono hev.ext).putD c3 c4 hv) (by rw [hfe]) hrest (hi.imp fun _ _ g => g.mono hev.ext)
      generalize region (putD tm x gi.d) h2 rest = RR at ih ⊢
      cases RR with
      | fin tm' h' => obtain ⟨fr', w', ρ', g1, g2⟩ := ih; exact ⟨fr', w', ρ', .head hs g1, g2⟩
      | stop tm' h' rest' r =>
        rcases ih with ih | ⟨fr', w', ρ', g1, g2⟩
        · exact .inl ih
        · exact .inr ⟨fr', w', ρ', .head hs g1, g2⟩
    have heq : region tm h (gi :: rest) = Bool.rec (motive := fun _ => RR) (region (putD tm undefA gi.d) h rest)
        (IR.rec (motive := fun _ => RR) (fun x => region (putD tm x gi.d) h rest) (fun x h => region (putD tm x gi.d) h rest)
          (fun f a => .stop tm h (gi :: rest) (.call f a)) (fun f a => .stop tm h (gi :: rest) (.callv f a)) (fun d => .stop tm h (gi :: rest) (.defer d))
          (.stop tm h (gi :: rest) .recover) (fun v => .stop tm h (gi :: rest) (.panic v)) (fun l => .stop tm h (gi :: rest) (.br l)) (fun w => .stop tm h (gi :: rest) (.fail w))
          (ins tm h gi.ins)) (want tm gi.g) := by cases gi; rfl
    rw [heq]
    cases hwt : want tm gi.g with
    | false =>
      simp only
      refine on (v := undef) (w2 := w) (ρ2 := ρ) ?_ .undef s.wr (.refl ρ h)
      refine step_skipped hmode ht ?_ _
      rw [ho, Option.map_some, Option.getD_some, ← hwe, hwt]
    | true =>
      simp only
      rw [ins_eq c2]
      have hwant : Region.wanted o (yielded ops fr.tmps) = true := by rw [← hwe, hwt]
      have hsnd : Snd Pr B w0 ρ h w ((execOp (act fr).eval o).run Pr w) (ins1 tm h gi.ins) :=
        cOp_sound s.wr (ev := (act fr).eval) (fun f => rfl) c1 (fun x _ => OP.of s.gl x fun t' _ => t.2 t')
      have hnd : (∀ d, ins1 tm h gi.ins ≠ .defer d) → (∀ n, ins1 tm h gi.ins ≠ .fail n) → ∀ c, o.op ≠ .defer c := by
        intro h1 h2 c hc
        rw [hc] at c1
        rcases dfr_ins (h := h) c1 tm with ⟨d, hd⟩ | ⟨n, hn⟩
        · exact h1 d hd
        · exact h2 n hn
      have stop : (∃ n, ins1 tm h gi.ins = .fail n) ∨ ∃ fr' w' ρ', Steps Pr (lone fr (css ++ tail) w) (lone fr' (css ++ tail) w') ∧ ∃ lo, Stops Pr B w0 tail tm (gi :: rest) k mt cs h fr' css w' ρ' lo (ins1 tm h gi.ins) :=
        .inr ⟨fr, w, ρ, .refl Pr _, lo, ⟨⟨htop2, s.rest, s.wr, s.gl, s.hlo⟩, ops, i, is', k', o, ht, ho, hwant, hsnd, hnd⟩⟩
      generalize ins1 tm h gi.ins = r at hsnd hnd stop
      cases r with
      | v x =>
        obtain ⟨v, g1, g2⟩ := hsnd
        exact on (step_gives hmode ht ho hwant (.inr (hnd (fun _ => by simp) (fun _ => by simp))) _ g1) g2 s.wr (.refl ρ h)
      | vh x h2 =>
        obtain ⟨ρ', v, w', g1, g2, g3, g4⟩ := hsnd
        exact on (step_gives hmode ht ho hwant (.inr (hnd (fun _ => by simp) (fun _ => by simp))) _ g1) g2 g3 g4
      | _ => exact stop

end
end Go.Proofs.YtlklnffmhclioaaGreatDoor.Ev

namespace Go.Proofs.YtlklnffmhclioaaGreatDoor.Ev
open Go.RowKit

section
variable {Pr : Program} {B : Nat} {w0 w : World} {tail : List Frame} {ρ : En} {h : AH}

/-- a frame that runs, but for its temporaries and its items -/
structure FB (Pr : Program) (ρ : En) (mt : AMeta) (func : Func) (fr : Frame) : Prop where
  fn : mt.fn = P.slot fr.fn
  fu : Pr.funcs[fr.fn]? = some func
  df : All2 (DR Pr ρ) mt.df fr.defers
  md : fr.mode = .run
  kd : fr.kind = if mt.dk then .deferred else .normal
  ro : RoR ρ mt.ro fr.roundOf

theorem FB.mono {ρ' : En} {mt : AMeta} {func : Func} {fr : Frame} (k : FB Pr ρ mt func fr) (x : Ext ρ ρ') : FB Pr ρ' mt func fr :=
  ⟨k.fn, k.fu, k.df.imp fun _ _ g => g.mono x, k.md, k.kd, k.ro.mono x⟩

/-- within a region that draws its order -/
structure DSt (Pr : Program) (B : Nat) (w0 : World) (mt : AMeta) (cs : List AFr) (k : List AItem) (h : AH) (tm : T AV) (func : Func) (ops : Array Oper) (gis : List GI) (cl : List Cl) (an : List Nat) (A : Nat → Bool) (dn op gd : Nat) (pth : Nat → P)
    (is : List Nat) (k' : List Item) (fr : Frame) (css : List Frame) (w : World) (ρ : En) (lo : Nat) : Prop where
  fb : FB Pr ρ mt func fr
  td : fr.todo = .inRegion ops is :: k'
  it : All2 (ItR Pr ρ func.ntmps (resT func.results.toList)) k k'
  sc : Sch ops A is
  dr : Dr Pr ρ h lo h.nxt.toNat func.ntmps (resT func.results.toList) ops gis cl an A dn op gd pth tm fr.tmps
  rest : Rs Pr ρ h lo cs css
  wr : WR Pr B w0 ρ h w
  gl : GL Pr ρ
  hlo : lo ≤ h.nxt.toNat

variable {mt : AMeta} {cs : List AFr} {k : List AItem} {tm : T AV} {func : Func} {ops : Array Oper} {gis : List GI} {cl : List Cl} {an : List Nat} {A : Nat → Bool} {dn op gd : Nat} {pth : Nat → P}
  {is : List Nat} {k' : List Item} {fr : Frame} {css : List Frame} {lo : Nat}

theorem finish_reg {i : Nat} {is' : List Nat} {o : Oper} (ht : fr.todo = .inRegion ops (i :: is') :: k') (ho : ops[i]? = some o) (v : Value) :
    fr.finish v = { fr with tmps := (match o.dst with | some d => fr.tmps.setIfInBounds d v | none => fr.tmps), todo := .inRegion ops is' :: k' } := by
  simp only [Frame.finish, ht, ho, Option.bind_some]
  cases o.dst <;> rfl

theorem FB.finish (k0 : FB Pr ρ mt func fr) {i : Nat} {is' : List Nat} {o : Oper} (ht : fr.todo = .inRegion ops (i :: is') :: k') (ho : ops[i]? = some o) (v : Value) : FB Pr ρ mt func (fr.finish v) := by
  rw [finish_reg ht ho]
  exact ⟨k0.fn, k0.fu, k0.df, k0.md, k0.kd, k0.ro⟩

theorem reads_guard {o : Oper} {j : Nat} {w : Bool} {q : Oper} {d : Nat} (h1 : o.guard = some (j, w)) (h2 : ops.toList[j]? = some q) (h3 : q.dst = some d) : d ∈ reads ops.toList o := by
  refine List.mem_append_right _ ?_
  rw [h1]
  simp only [h2, Option.bind_some, h3]
  simp

theorem reads_opnd {o : Oper} {t : Nat} (h1 : Operand.tmp t ∈ o.op.operands.toList) : t ∈ reads ops.toList o := by
  refine List.mem_append_left _ ?_
  rw [List.mem_filterMap]
  exact ⟨_, h1, rfl⟩

/-- the machine does what is open, to where the interpreter has not been -/
theorem adv : ∀ (is : List Nat) {A : Nat → Bool} {fr : Frame} {w : World} {ρ : En}, DSt Pr B w0 mt cs k h tm func ops gis cl an A dn op gd pth is k' fr css w ρ lo → (∀ j, Opn ops A dn j → gd.testBit j = true) →
    ∃ A' is' fr' w' ρ', Steps Pr (lone fr (css ++ tail) w) (lone fr' (css ++ tail) w') ∧ DSt Pr B w0 mt cs k h tm func ops gis cl an A' dn op gd pth is' k' fr' css w' ρ' lo ∧ (is' = [] ∨ ∃ x is'', is' = x :: is'' ∧ dn.testBit x = false)
  | [], A, fr, w, ρ, s, _ => ⟨A, [], fr, w, ρ, .refl Pr _, s, .inl rfl⟩
  | x :: is', A, fr, w, ρ, s, hgd => by
    cases hdx : dn.testBit x with
    | false => exact ⟨A, x :: is', fr, w, ρ, .refl Pr _, s, .inr ⟨x, is', rfl, hdx⟩⟩
    | true =>
      obtain ⟨fb, td, it, sc, dr, rest, wr, gl, hlo⟩ := s
      cases sc with
      | cons hi hn hb sc' =>
      have hO : Opn ops A dn x := ⟨hi, hdx, hn⟩
      obtain ⟨o, ho⟩ := DC.ex hi
      obtain ⟨g, e1, e2, e3⟩ := dr.dc.at' ho
      obtain ⟨c1, c2, c3, c4, c5⟩ := cGI_spec e2
      obtain ⟨_, hcl⟩ := dr.opn x hO
      have hbo : ∀ e ∈ o.after.toList, Region.binds .any e = true → A e.on = true := fun e he hbe => hb o e ho he hbe
      have hA : ∀ j, (an.getD x 0).testBit j = true → A j = true := fun j hj => dr.dc.ancA dr.cA ho hbo hj
      have hrd : ∀ t ∈ reads ops.toList o, V Pr ρ (T.get undefA (P.slot t) tm) (fr.tmps.getD t undef) := fun t ht => dr.opnd ho hA ht
      have hwe : want tm g.g = Region.wanted o (yielded ops fr.tmps) := want_eqV c5 fun j w q d h1 h2 h3 => hrd d (reads_guard h1 h2 h3)
      have hmode := fb.md
      have key : ∀ {v : Value} {w' : World} {ρ' : En}, step Pr (lone fr (css ++ tail) w) = .next (lone (fr.finish v) (css ++ tail) w') → Ext ρ ρ' → Kept 0 lo ρ ρ' h h → WR Pr B w0 ρ' h w' →
          (∀ j gj, Opn ops A dn j → j ≠ x → gd.testBit j = true → gis[j]? = some gj → cl.getD j .acts = .made → want tm gj.g = true → ρ (pth j) = none → ρ' (pth j) = none) → (∀ d, o.dst = some d → V Pr ρ' (T.get undefA (P.slot d) tm) v) →
          ∃ A' is' fr' w' ρ', Steps Pr (lone fr (css ++ tail) w) (lone fr' (css ++ tail) w') ∧ DSt Pr B w0 mt cs k h tm func ops gis cl an A' dn op gd pth is' k' fr' css w' ρ' lo ∧ (is' = [] ∨ ∃ x is'', is' = x :: is'' ∧ dn.testBit x = false) := by
        intro v w' ρ' hs hx hkp hw' hm hv
        have hdr := dr.mach ho hO hbo hx hm hv
        have s2 : DSt Pr B w0 mt cs k h tm func ops gis cl an (fun j => j == x || A j) dn op gd pth is' k' (fr.finish v) css w' ρ' lo := by
          refine ⟨(fb.finish td ho v).mono hx, ?_, it.imp fun _ _ g => g.mono hx, sc', ?_, rest.gen hx hkp, hw', gl.mono hx, hlo⟩
          · rw [finish_reg td ho]
          · rw [finish_reg td ho]; exact hdr
        obtain ⟨A', is2, fr', w2, ρ2, g1, g2, g3⟩ := adv is' s2 (fun j hj => hgd j (by
          obtain ⟨q1, q2, q3⟩ := hj
          simp only [Bool.or_eq_false_iff] at q3
          exact ⟨q1, q2, q3.2⟩))
        exact ⟨A', is2, fr', w2, ρ2, .head hs g1, g2, g3⟩
      have hdst : ∀ {a : AV}, dRead tm g.d a → ∀ d, o.dst = some d → T.get undefA (P.slot d) tm = a := by
        intro a hr d hd
        exact hr (P.slot d) (by rw [c3, hd]; rfl)
      cases hwt : want tm g.g with
      | false =>
        refine key (v := undef) (w' := w) (ρ' := ρ) ?_ (.refl ρ) (.refl ρ h) wr (fun _ _ _ _ _ _ _ _ hh => hh) (fun d hd => ?_)
        · refine step_skipped hmode td ?_ _
          rw [ho, Option.map_some, Option.getD_some, ← hwe, hwt]
        · rw [hdst (dr.unw x g hO e1 hwt) d hd]; exact .undef
      | true =>
        have hwant : Region.wanted o (yielded ops fr.tmps) = true := by rw [← hwe, hwt]
        have hop : ∀ y ∈ o.op.operands.toList, OP Pr ρ tm (act fr).eval y := fun y hy => OP.of gl y fun t' ht' => hrd t' (reads_opnd (by rw [← ht']; exact hy))
        have prm := dr.prom x g hO (hgd x hO) e1 hwt
        by_cases hmk : cl.getD x .acts = .made
        · obtain ⟨ob, mk, m1, m2, ⟨m3l, m3⟩, m4, m5⟩ := prm.1 hmk
          have hmo : madeOp o.op = true := (clO_spec (o := o) (i := g.ins) (by rw [← e3]; exact hcl)).2 (by rw [← e3]; exact hmk)
          obtain ⟨obj, v, q1, q2, q3⟩ := made_sound (Pr := Pr) (ρ := ρ) (w := w) c1 hmo hop m1
          have hnd : ∀ c, o.op ≠ .defer c := fun c hc => by rw [hc] at hmo; cases hmo
          refine key (step_gives hmode td ho hwant (.inr hnd) _ q1) (.upd _ m2) (fun p _ h2 hp => ⟨by rw [upd_ne (fun e => by rw [e] at h2; omega)]; exact hp, .inl rfl⟩) (wr.late m3 m2 (e := ⟨w.heap.size, 0, 0, 0⟩) rfl (m4.elim (fun m4 => by rw [m4]; exact q2) (fun m4 => by rw [m4]; trivial))) (fun j gj hj hne hbj hgj hcj hwj hn => ?_) (fun d hd => ?_)
          · rw [upd_ne]
            · exact hn
            · exact dr.inj j x gj g hj hO hbj (hgd x hO) hgj e1 hcj hmk hwj hwt hne
          · rw [hdst m5 d hd]; exact q3 _
        · obtain ⟨a, a1, a2⟩ := prm.2 hmk
          have hsnd : Snd Pr B w0 ρ h w ((execOp (act fr).eval o).run Pr w) (ins1 tm h g.ins) := cOp_sound wr (ev := (act fr).eval) (fun f => rfl) c1 hop
          rw [a1] at hsnd
          obtain ⟨v, q1, q2⟩ := hsnd
          have hnd : ∀ c, o.op ≠ .defer c := by
            intro c hc
            rw [hc] at c1
            rcases dfr_ins (h := h) c1 tm with ⟨d, hd⟩ | ⟨n, hn⟩
            · rw [hd] at a1; cases a1
            · rw [hn] at a1; cases a1
          refine key (step_gives hmode td ho hwant (.inr hnd) _ q1) (.refl ρ) (.refl ρ h) wr (fun _ _ _ _ _ _ _ _ hh => hh) (fun d hd => ?_)
          rw [hdst a2 d hd]; exact q2

theorem region_cons (tm : T AV) (h : AH) (gi : GI) (rest : List GI) : region tm h (gi :: rest) = Bool.rec (motive := fun _ => RR) (region (putD tm undefA gi.d) h rest)
    (IR.rec (motive := fun _ => RR) (fun x => region (putD tm x gi.d) h rest) (fun x h => region (putD tm x gi.d) h rest)
      (fun f a => .stop tm h (gi :: rest) (.call f a)) (fun f a => .stop tm h (gi :: rest) (.callv f a)) (fun d => .stop tm h (gi :: rest) (.defer d))
      (.stop tm h (gi :: rest) .recover) (fun v => .stop tm h (gi :: rest) (.panic v)) (fun l => .stop tm h (gi :: rest) (.br l)) (fun w => .stop tm h (gi :: rest) (.fail w))
      (ins tm h gi.ins)) (want tm gi.g) := by cases gi; rfl

/-- what is to be shown of a region's run -/
def RegEnd (Pr : Program) (B : Nat) (w0 : World) (tail : List Frame) (mt : AMeta) (cs : List AFr) (k : List AItem) (fr : Frame) (css : List Frame) (w : World) : RR → Prop
  | .fin tm' h' => ∃ fr' w' ρ', Steps Pr (lone fr (css ++ tail) w) (lone fr' (css ++ tail) w') ∧ ∃ lo, St Pr B w0 tail tm' k mt cs h' fr' css w' ρ' lo
  | .stop tm' h' rest r => (∃ n, r = .fail n) ∨ ∃ fr' w' ρ', Steps Pr (lone fr (css ++ tail) w) (lone fr' (css ++ tail) w') ∧ ∃ lo, Stops Pr B w0 tail tm' rest k mt cs h' fr' css w' ρ' lo r

theorem RegEnd.of_steps {fr fr' : Frame} {w w' : World} {r : RR} (s : Steps Pr (lone fr (css ++ tail) w) (lone fr' (css ++ tail) w')) (k0 : RegEnd Pr B w0 tail mt cs k fr' css w' r) : RegEnd Pr B w0 tail mt cs k fr css w r := by
  cases r with
  | fin tm' h' => obtain ⟨fr2, w2, ρ2, g1, g2⟩ := k0; exact ⟨fr2, w2, ρ2, s.trans g1, g2⟩
  | stop tm' h' rest r =>
    rcases k0 with k0 | ⟨fr2, w2, ρ2, g1, g2⟩
    · exact .inl k0
    · exact .inr ⟨fr2, w2, ρ2, s.trans g1, g2⟩

theorem cPI_ex {i : Nat} {r : List PI} {l : List GI} (hc : cPI gis (.ex i :: r) = some l) : ∃ g l', gis[i]? = some g ∧ cPI gis r = some l' ∧ l = g :: l' := by
  simp only [cPI] at hc
  cases h1 : gis[i]? with
  | none => rw [h1] at hc; cases hc
  | some g =>
    cases h2 : cPI gis r with
    | none => rw [h1, h2] at hc; cases hc
    | some l' => rw [h1, h2] at hc; cases hc; exact ⟨g, l', rfl, rfl, rfl⟩

theorem cPI_ck {i : Nat} {r : List PI} {l : List GI} (hc : cPI gis (.ck i :: r) = some l) : ∃ g d l', gis[i]? = some g ∧ g.d = some d ∧ cPI gis r = some l' ∧ l = ⟨g.g, none, .chk g.ins d⟩ :: l' := by
  simp only [cPI] at hc
  cases h1 : gis[i]? with
  | none => rw [h1] at hc; cases hc
  | some g =>
    obtain ⟨gg, gd, gi⟩ := g
    cases gd with
    | none => rw [h1] at hc; cases hc
    | some d =>
      cases h2 : cPI gis r with
      | none => rw [h1, h2] at hc; cases hc
      | some l' => rw [h1, h2] at hc; cases hc; exact ⟨_, d, l', rfl, rfl, rfl, rfl⟩

/-- an act, that the machine has come to -/
theorem act_sim (hm : mt.md = .run) {pl : List PI} {i : Nat} {g : GI} {l' : List GI} {is : List Nat} {fr : Frame} {w : World} {ρ : En}
    (s : DSt Pr B w0 mt cs k h tm func ops gis cl an A dn op gd pth (i :: is) k' fr css w ρ lo) (nl : ∀ j, gd.testBit j = true → cl.getD j .acts ≠ .look) (hg : gis[i]? = some g) (hd : dn.testBit i = false) (ha : subB (an.getD i 0) dn = true)
    (hc : cPI gis pl = some l') (hp : planOk ops.size cl an pl (dn ||| 2 ^ i) op gd = true)
    (ih : ∀ {tm : T AV} {h : AH} {A : Nat → Bool} {pth : Nat → P} {is : List Nat} {fr : Frame} {w : World} {ρ : En}, DSt Pr B w0 mt cs k h tm func ops gis cl an A (dn ||| 2 ^ i) op gd pth is k' fr css w ρ lo → RegEnd Pr B w0 tail mt cs k fr css w (region tm h l')) :
    RegEnd Pr B w0 tail mt cs k fr css w (region tm h (g :: l')) := by
  obtain ⟨fb, td, it, sc, dr, rest, wr, gl, hlo⟩ := s
  have sc0 := sc
  cases sc with
  | cons hi hn hb sc' =>
  obtain ⟨o, ho⟩ := DC.ex hi
  obtain ⟨g', e1, e2, e3⟩ := dr.dc.at' ho
  rw [hg] at e1; cases e1
  obtain ⟨c1, c2, c3, c4, c5⟩ := cGI_spec e2
  have hbo : ∀ e ∈ o.after.toList, Region.binds .any e = true → A e.on = true := fun e he hbe => hb o e ho he hbe
  have hA : ∀ j, (an.getD i 0).testBit j = true → A j = true := fun j hj => dr.dc.ancA dr.cA ho hbo hj
  have hrd : ∀ t ∈ reads ops.toList o, V Pr ρ (T.get undefA (P.slot t) tm) (fr.tmps.getD t undef) := fun t ht => dr.opnd ho hA ht
  have hwe : want tm g.g = Region.wanted o (yielded ops fr.tmps) := want_eqV c5 fun j w q d h1 h2 h3 => hrd d (reads_guard h1 h2 h3)
  have hmode := fb.md
  have on : ∀ {x : AV} {v : Value} {h2 : AH} {w2 : World} {ρ2 : En}, step Pr (lone fr (css ++ tail) w) = .next (lone (fr.finish v) (css ++ tail) w2) → V Pr ρ2 x v → WR Pr B w0 ρ2 h2 w2 → Evo ρ ρ2 h h2 →
      RegEnd Pr B w0 tail mt cs k fr css w (region (putD tm x g.d) h2 l') := by
    intro x v h2 w2 ρ2 hs hv hw2 hx
    refine RegEnd.of_steps (.one hs) (ih (A := fun j => j == i || A j) (pth := pth) (is := is) (fr := fr.finish v) (ρ := ρ2) ?_)
    have hdr := dr.done nl ho hg hd ha hbo hx.ext (hx.kept (Nat.le_refl _)) hx.nxt hv
    refine ⟨(fb.finish td ho v).mono hx.ext, ?_, it.imp fun _ _ g => g.mono hx.ext, sc', ?_, rest.mono hx hlo, hw2, gl.mono hx.ext, Nat.le_trans hlo hx.nxt⟩
    · rw [finish_reg td ho]
    · rw [finish_reg td ho]; exact hdr
  rw [region_cons]
  cases hwt : want tm g.g with
  | false =>
    simp only
    refine on (v := undef) (w2 := w) (ρ2 := ρ) ?_ .undef wr (.refl ρ h)
    refine step_skipped hmode td ?_ _
    rw [ho, Option.map_some, Option.getD_some, ← hwe, hwt]
  | true =>
    simp only
    rw [ins_eq c2]
    have hwant : Region.wanted o (yielded ops fr.tmps) = true := by rw [← hwe, hwt]
    have hop : ∀ y ∈ o.op.operands.toList, OP Pr ρ tm (act fr).eval y := fun y hy => OP.of gl y fun t' ht' => hrd t' (reads_opnd (by rw [← ht']; exact hy))
    have hsnd : Snd Pr B w0 ρ h w ((execOp (act fr).eval o).run Pr w) (ins1 tm h g.ins) := cOp_sound wr (ev := (act fr).eval) (fun f => rfl) c1 hop
    have hnd : (∀ d, ins1 tm h g.ins ≠ .defer d) → (∀ n, ins1 tm h g.ins ≠ .fail n) → ∀ c, o.op ≠ .defer c := by
      intro h1 h2 c hc
      rw [hc] at c1
      rcases dfr_ins (h := h) c1 tm with ⟨d, hd⟩ | ⟨n, hn⟩
      · exact h1 d hd
      · exact h2 n hn
    have top : FrR Pr ρ h lo h.nxt.toNat ⟨tm, .act (g :: l') :: k, mt⟩ fr :=
      ⟨fb.fn, ⟨func, fb.fu, fun _ => .acting rfl td it sc0 hg hd ha hc hp dr nl, fun t ht => dr.resV ht⟩, fb.df, by rw [hm, fb.md]; trivial, fb.kd, fb.ro⟩
    have stop : (∃ n, ins1 tm h g.ins = .fail n) ∨ ∃ fr' w' ρ', Steps Pr (lone fr (css ++ tail) w) (lone fr' (css ++ tail) w') ∧ ∃ lo, Stops Pr B w0 tail tm (g :: l') k mt cs h fr' css w' ρ' lo (ins1 tm h g.ins) :=
      .inr ⟨fr, w, ρ, .refl Pr _, lo, ⟨⟨top, rest, wr, gl, hlo⟩, ops, i, is, k', o, td, ho, hwant, hsnd, hnd⟩⟩
    generalize ins1 tm h g.ins = r at hsnd hnd stop
    cases r with
    | v x =>
      obtain ⟨v, g1, g2⟩ := hsnd
      exact on (step_gives hmode td ho hwant (.inr (hnd (fun _ => by simp) (fun _ => by simp))) _ g1) g2 wr (.refl ρ h)
    | vh x h2 =>
      obtain ⟨ρ', v, w', g1, g2, g3, g4⟩ := hsnd
      exact on (step_gives hmode td ho hwant (.inr (hnd (fun _ => by simp) (fun _ => by simp))) _ g1) g2 g3 g4
    | _ => exact stop

theorem draw_sim (hm : mt.md = .run) : ∀ (pl : List PI) {l : List GI} {tm : T AV} {h : AH} {A : Nat → Bool} {dn op gd : Nat} {pth : Nat → P} {is : List Nat} {fr : Frame} {w : World} {ρ : En},
    cPI gis pl = some l → planOk ops.size cl an pl dn op gd = true → DSt Pr B w0 mt cs k h tm func ops gis cl an A dn op gd pth is k' fr css w ρ lo → RegEnd Pr B w0 tail mt cs k fr css w (region tm h l)
  | [], l, tm, h, A, dn, op, gd, pth, is, fr, w, ρ, hc, hp, s => by
    cases hc
    simp only [planOk, Bool.and_eq_true] at hp
    have hdn : dn = 2 ^ ops.size - 1 := Nat.eq_of_beq_eq_true hp.1
    have hall : ∀ j, j < ops.size → dn.testBit j = true := by
      intro j hj
      rw [hdn, Nat.testBit_two_pow_sub_one]
      simpa using hj
    obtain ⟨A', is', fr', w', ρ', g1, g2, g3⟩ := adv (tail := tail) is s (fun j hj => subB_spec hp.2 (s.dr.opn j hj).1)
    have hnil : is' = [] := by
      rcases g3 with g3 | ⟨x, is2, rfl, hx⟩
      · exact g3
      · cases g2.sc with
        | cons hi _ _ _ => rw [hall x hi] at hx; cases hx
    subst hnil
    obtain ⟨fb, td, it, sc, dr, rest, wr, gl, hlo⟩ := g2
    refine RegEnd.of_steps g1 ?_
    have hmode := fb.md
    have hs := stepR_region_end (P := Pr) (b := fr') (a := act fr') (k := k') (cs := css ++ tail) (w := w') (ops := ops)
    have e1 : fr'.atR (act fr') (.inRegion ops [] :: k') = fr' := atR_self hmode td
    have e2 : fr'.atR (act fr') k' = { fr' with todo := k' } := by
      obtain ⟨fn, tmps, todo', defers, mode, kind, ro⟩ := fr'
      simp only at hmode; subst hmode; rfl
    rw [e1, e2] at hs
    have hAll : ∀ i, i < ops.size → A' i = true := by
      cases sc with
      | nil hh => exact hh
    have htm : TM Pr ρ' func.ntmps tm fr'.tmps := by
      refine ⟨dr.size, fun t => ?_⟩
      rcases dr.tms t with ⟨x, ox, hx, _⟩ | hv
      · have := hAll x hx.1
        rw [hx.2.2] at this; cases this
      · exact hv
    exact ⟨_, w', ρ', .one hs, lo, ⟨⟨fb.fn, ⟨func, fb.fu, fun _ => .plain htm it, fun t _ => htm.2 t⟩, fb.df, by show MR Pr ρ' mt.md fr'.mode; rw [hm, fb.md]; trivial, fb.kd, fb.ro⟩, rest, wr, gl, hlo⟩⟩
  | .ck i :: r, l, tm, h, A, dn, op, gd, pth, is, fr, w, ρ, hc, hp, s => by
    obtain ⟨g, d, l', hg, hgd, hc', rfl⟩ := cPI_ck hc
    simp only [planOk, Bool.and_eq_true] at hp
    obtain ⟨⟨hi, hop⟩, hp⟩ := hp
    have hi : i < ops.size := Nat.le_of_ble_eq_true hi
    rw [region_cons]
    have go : Dr Pr ρ h lo h.nxt.toNat func.ntmps (resT func.results.toList) ops gis cl an A dn op (gd ||| 2 ^ i) pth tm fr.tmps → RegEnd Pr B w0 tail mt cs k fr css w (region tm h l') := fun hdr =>
      draw_sim hm r hc' hp ⟨s.fb, s.td, s.it, s.sc, hdr, s.rest, s.wr, s.gl, s.hlo⟩
    cases hwt : want tm g.g with
    | false =>
      simp only
      exact go (s.dr.ck hg fun hw => by rw [hwt] at hw; cases hw)
    | true =>
      simp only
      show RegEnd Pr B w0 tail mt cs k fr css w (IR.rec (motive := fun _ => RR) (fun x => region (putD tm x none) h l') (fun x h => region (putD tm x none) h l')
        (fun f a => .stop tm h (_ :: l') (.call f a)) (fun f a => .stop tm h (_ :: l') (.callv f a)) (fun d => .stop tm h (_ :: l') (.defer d))
        (.stop tm h (_ :: l') .recover) (fun v => .stop tm h (_ :: l') (.panic v)) (fun l => .stop tm h (_ :: l') (.br l)) (fun w => .stop tm h (_ :: l') (.fail w))
        (iChk (ins1 tm h g.ins) (T.get undefA d tm)))
      cases hins : ins1 tm h g.ins with
      | v a =>
        simp only [iChk]
        cases heq : eqV a (T.get undefA d tm) with
        | false => exact .inl ⟨_, rfl⟩
        | true =>
          refine go (s.dr.ck hg fun _ hO => ?_)
          obtain ⟨o, ho⟩ := DC.ex hi
          obtain ⟨g', e1, e2, e3⟩ := s.dr.dc.at' ho
          rw [hg] at e1; cases e1
          obtain ⟨_, hcl⟩ := s.dr.opn i hO
          have hnm : cl.getD i .acts ≠ .made := by
            intro hm'
            have h1 := (clO_spec (o := o) (i := g.ins) (by rw [← e3]; exact hcl)).1
            rw [← e3, hm'] at h1
            rcases madeOf_ins (tm := tm) h1 with ⟨ob, mk, _, h2⟩ | h2
            · rw [h2 h] at hins; cases hins
            · obtain ⟨n, h3⟩ := h2 h; rw [h3] at hins; cases hins
          refine ⟨hnm, fun hm' => absurd hm' hnm, fun _ => ⟨a, hins, fun p hp' => ?_⟩⟩
          rw [hgd] at hp'; cases hp'
          exact (eqV_sound heq).symm
      | _ => exact .inl ⟨_, rfl⟩
  | .ex i :: r, l, tm, h, A, dn, op, gd, pth, is, fr, w, ρ, hc, hp, s => by
    obtain ⟨g, l', hg, hc', rfl⟩ := cPI_ex hc
    unfold planOk at hp
    obtain ⟨hp1, hp⟩ := Bool.and_eq_true_iff.1 hp
    simp only [Bool.and_eq_true, Bool.not_eq_true'] at hp1
    obtain ⟨⟨hi, hdi⟩, ha⟩ := hp1
    have hi : i < ops.size := Nat.le_of_ble_eq_true hi
    obtain ⟨o, ho⟩ := DC.ex hi
    obtain ⟨g', e1, e2, e3⟩ := s.dr.dc.at' ho
    rw [hg] at e1; cases e1
    obtain ⟨c1, c2, c3, c4, c5⟩ := cGI_spec e2
    by_cases hact : cl.getD i .acts = .acts
    · rw [hact] at hp
      obtain ⟨hp1, hp⟩ := Bool.and_eq_true_iff.1 hp
      obtain ⟨hs, hrest⟩ := Bool.and_eq_true_iff.1 hp1
      obtain ⟨A', is', fr', w', ρ', g1, g2, g3⟩ := adv (tail := tail) is s (fun j hj => subB_spec hs (s.dr.opn j hj).1)
      refine RegEnd.of_steps g1 ?_
      -- the machine stands at the act
      have hhead : ∃ is2, is' = i :: is2 := by
        rcases g3 with rfl | ⟨x, is2, rfl, hx⟩
        · cases g2.sc with
          | nil hh => have := g2.dr.sub i hi (hh i hi); rw [hdi] at this; cases this
        · by_cases hxi : x = i
          · subst hxi; exact ⟨is2, rfl⟩
          · cases g2.sc with
            | cons hxl hn hb _ =>
            have hx2 := List.all_eq_true.1 hrest x (List.mem_range.2 hxl)
            simp only [hx, Bool.false_or, Bool.or_eq_true, beq_iff_eq, hxi, false_or] at hx2
            obtain ⟨ox, hox⟩ := DC.ex hxl
            have := g2.dr.dc.ancA g2.dr.cA hox (fun e he hbe => hb ox e hox he hbe) hx2
            have := g2.dr.sub i hi this
            rw [hdi] at this; cases this
      obtain ⟨is2, rfl⟩ := hhead
      have hA : ∀ j, (an.getD i 0).testBit j = true → A' j = true := by
        cases g2.sc with
        | cons hxl hn hb _ => exact fun j hj => g2.dr.dc.ancA g2.dr.cA ho (fun e he hbe => hb o e ho he hbe) hj
      obtain ⟨hdr, nl⟩ := g2.dr.arrive hA hs (m := ops.size)
      exact act_sim hm ⟨g2.fb, g2.td, g2.it, g2.sc, hdr, g2.rest, g2.wr, g2.gl, g2.hlo⟩ nl hg hdi ha hc' hp (fun s' => draw_sim hm r hc' hp s')
    · have hp' : planOk ops.size cl an r (dn ||| 2 ^ i) (op ||| 2 ^ i) (gd ||| 2 ^ i) = true := by
        cases hcc : cl.getD i .acts with
        | acts => exact absurd hcc hact
        | _ => rw [hcc] at hp; exact hp
      have h1 := (clO_spec (o := o) (i := g.ins) (by rw [← e3]; exact hact)).1
      rw [← e3] at h1
      rw [region_cons]
      have smi : ∀ a, Same tm (putD tm a g.d) (giRd g) := by
        intro a p hp
        rw [get_putD]
        by_cases he : g.d = some p
        · exact absurd hp ((s.dr.dc.dstG hg he).1 hact)
        · simp [he]
      have dr0 : ∀ a, dRead (putD tm a g.d) g.d a := fun a p hp => by rw [get_putD, hp]; simp
      cases hwt : want tm g.g with
      | false =>
        simp only
        refine draw_sim hm r hc' hp' ⟨s.fb, s.td, s.it, s.sc, s.dr.put (a := undefA) (pth' := pth) hi hg hdi ha hact (fun _ _ => rfl) (fun _ _ _ _ hh => hh) (fun _ => rfl) (fun hw => by rw [hwt] at hw; cases hw) (fun hw => by rw [hwt] at hw; cases hw), s.rest, s.wr, s.gl, s.hlo⟩
      | true =>
        simp only
        rw [ins_eq c2]
        by_cases hmk : cl.getD i .acts = .made
        · rw [hmk] at h1
          rcases madeOf_ins (tm := tm) h1 with ⟨ob, mk, m1, m2⟩ | m2
          · rw [m2 h]
            simp only
            have hfr := s.wr.fresh h.nxt (Nat.le_refl _)
            have hget : ∀ p, p ≠ h.nxt → (h.new ob).get p = h.get p := fun p hp => by rw [AH.get_new]; simp [hp]
            have hnn : ∀ {p : P}, p.toNat < h.nxt.toNat → p ≠ h.nxt := fun hp he => by rw [he] at hp; omega
            refine draw_sim hm r hc' hp' (h := h.new ob) ⟨s.fb, s.td, s.it, s.sc, s.dr.put (h' := h.new ob) (hi' := (h.new ob).nxt.toNat) (a := mk h.nxt) (pth' := fun j => if j = i then h.nxt else pth j) hi hg hdi ha hact (fun j hj => by simp [hj]) (fun j gj hj hgj pr => ?_)
              (fun hw => by rw [hwt] at hw; cases hw) (fun _ => ?_) (fun _ _ j gj hj hgj hcj pr => ?_), s.rest.gen (.refl ρ) (fun p _ h2 hp => ⟨hp, .inl (hget p (hnn (Nat.lt_of_lt_of_le h2 s.hlo)))⟩), s.wr.later ob, s.gl, (by rw [AH.nxt_new, P.toNat_succ]; have := s.hlo; omega)⟩
            · refine ⟨fun hcm => ?_, fun hcm => ?_⟩
              · obtain ⟨o2, mk2, q1, q2, ⟨q3l, q3⟩, q4, q5⟩ := pr.1 hcm
                exact ⟨o2, mk2, q1, q2, ⟨q3l, by rw [AH.nxt_new, P.toNat_succ]; omega⟩, by rw [hget _ (hnn q3)]; exact q4, q5⟩
              · obtain ⟨a, q1, q2⟩ := pr.2 hcm
                refine ⟨a, ?_, q2⟩
                obtain ⟨oj, hoj⟩ := DC.ex hj.1
                obtain ⟨gj', f1, f2, f3⟩ := s.dr.dc.at' hoj
                rw [hgj] at f1; cases f1
                have f4 := (clO_spec (o := oj) (i := gj.ins) (by rw [← f3]; exact (s.dr.opn j hj).2)).1
                rw [← f3] at f4
                cases hcj : cl.getD j .acts with
                | pure => rw [hcj] at f4; rw [← q1]; exact pure_heap f4
                | look =>
                  rw [hcj] at f4
                  refine look_heap (h := h) (fun p hpn => ?_) f4 q1
                  exact hget p (fun e => hpn (by rw [e]; exact hfr.2))
                | made => exact absurd hcj hcm
                | acts => exact absurd hcj (s.dr.opn j hj).2
            · refine ⟨fun _ => ⟨ob, mk, by rw [← madeOf_same (Same.left (smi _))]; exact m1, by simp only [if_true]; exact hfr.1, by simp only [if_true]; exact ⟨s.hlo, by rw [AH.nxt_new, P.toNat_succ]; omega⟩, by simp only [if_true]; rw [AH.get_new]; exact .inl (by simp), by simp only [if_true]; exact dr0 _⟩, fun hcm => absurd hmk hcm⟩
            · simp only [if_true]
              obtain ⟨o2, mk2, q1, q2, ⟨q3l, q3⟩, q4, q5⟩ := pr.1 hcj
              exact hnn q3
          · obtain ⟨n, hn⟩ := m2 h
            rw [hn]
            exact .inl ⟨_, rfl⟩
        · have hpl : clI g.ins = .pure ∨ clI g.ins = .look := by
            rw [h1]
            cases hcc : cl.getD i .acts with
            | pure => exact .inl rfl
            | look => exact .inr rfl
            | made => exact absurd hcc hmk
            | acts => exact absurd hcc hact
          have hvf := vf_ins (tm := tm) (h := h) hpl
          cases hins : ins1 tm h g.ins with
          | v a =>
            simp only
            refine draw_sim hm r hc' hp' ⟨s.fb, s.td, s.it, s.sc, s.dr.put (a := a) (pth' := pth) hi hg hdi ha hact (fun _ _ => rfl) (fun _ _ _ _ hh => hh) (fun hw => by rw [hwt] at hw; cases hw) (fun _ => ?_) (fun _ hcm => absurd hcm hmk), s.rest, s.wr, s.gl, s.hlo⟩
            exact ⟨fun hcm => absurd hcm hmk, fun _ => ⟨a, by rw [← ins1_same (Same.left (smi _))]; exact hins, dr0 _⟩⟩
          | fail n => exact .inl ⟨_, rfl⟩
          | _ => rw [hins] at hvf; cases hvf
end
end Go.Proofs.YtlklnffmhclioaaGreatDoor.Ev

namespace Go.Proofs.YtlklnffmhclioaaGreatDoor.Ev
open Go.RowKit

section
variable {Pr : Program} {B : Nat} {w0 w : World} {tail : List Frame} {ρ : En} {h : AH} {E : Env}

theorem bindTm_get : ∀ (args : List AV) (s : Nat) (tm : T AV) (t : Nat), T.get undefA (P.slot t) (bindTm (P.slot s) args tm) = if s ≤ t ∧ t < s + args.length then args.getD (t - s) undefA else T.get undefA (P.slot t) tm
  | [], s, tm, t => by
    have : ¬ (s ≤ t ∧ t < s + ([] : List AV).length) := by simp <;> omega
    rw [if_neg this]; rfl
  | a :: r, s, tm, t => by
    have hb : bindTm (P.slot s) (a :: r) tm = bindTm (P.slot s).succ r (T.put undefA a (P.slot s) tm) := rfl
    rw [hb, P.slot_succ, bindTm_get r (s + 1)]
    by_cases h1 : s + 1 ≤ t ∧ t < s + 1 + r.length
    · rw [if_pos h1, if_pos (by simp; omega)]
      have : t - s = (t - (s + 1)) + 1 := by omega
      rw [this]; simp
    · rw [if_neg h1]
      by_cases h2 : t = s
      · subst h2
        rw [T.get_put_same, if_pos (by simp)]; simp
      · rw [T.get_put_ne (P.slot_ne h2), if_neg (by simp; omega)]

theorem VL.getD {l : List AV} {r : List Value} (k : VL Pr ρ l r) (i : Nat) : V Pr ρ (l.getD i undefA) (r.getD i undef) := by
  simp only [List.getD_eq_getElem?_getD]
  cases hl : l[i]? with
  | some a =>
    obtain ⟨v, g1, g2⟩ := k.get hl
    rw [g1]; exact g2
  | none =>
    have : r[i]? = none := by
      rw [List.getElem?_eq_none_iff] at hl ⊢
      rw [← k.length]; exact hl
    rw [this]; exact .undef

theorem enterTM {args : List AV} {vs : Array Value} (hv : VL Pr ρ args vs.toList) (n : Nat) : TM Pr ρ n (bindTm .z args .leaf) (vs ++ Array.replicate (n - vs.size) undef) := by
  refine ⟨by simp; omega, fun t => ?_⟩
  rw [← P.slot_zero, bindTm_get]
  have hl := hv.length
  by_cases ht : t < args.length
  · rw [if_pos ⟨Nat.zero_le _, by omega⟩]
    have := hv.getD t
    simp only [List.getD_eq_getElem?_getD, Array.getElem?_toList, Nat.sub_zero] at this ⊢
    have hlt : t < vs.size := by have : args.length = vs.size := by simpa using hl
                                 omega
    rw [Array.getD_eq_getD_getElem?, Array.getElem?_append_left hlt]
    exact this
  · rw [if_neg (by omega), T.get_leaf]
    have hge : vs.size ≤ t := by have : args.length = vs.size := by simpa using hl
                                 omega
    have : (vs ++ Array.replicate (n - vs.size) undef).getD t undef = undef := by
      rw [Array.getD_eq_getD_getElem?, Array.getElem?_append_right hge, Array.getElem?_replicate]
      split <;> rfl
    rw [this]; exact .undef

theorem cFn_spec {func : Func} {c : CFn} (hc : cFn Pr func = some c) : ∃ b, func.body = some b ∧ func.name ≠ "runtime.NumGoroutine" ∧ cCode Pr func.ntmps (resT func.results.toList) b = some c.body ∧ cRes Pr func.results.toList = some c.res := by
  unfold cFn at hc
  split at hc
  · cases hc
  · rename_i hn
    obtain ⟨b, hb, hc⟩ := bind_some hc
    obtain ⟨x, hx, hc⟩ := bind_some hc
    obtain ⟨r, hr, hc⟩ := bind_some hc
    cases hc
    exact ⟨b, hb, by simpa using hn, hx, hr⟩

theorem run_callFunc {f : FuncId} {func : Func} (hf : Pr.funcs[f]? = some func) (hb : func.body.isSome = true) (hn : func.name ≠ "runtime.NumGoroutine") (vs : Array Value) : (callFunc f vs).run Pr w = .ok (.enter f vs) w := by
  cases hx : func.body with
  | none => rw [hx] at hb; cases hb
  | some c => simp [callFunc, hf, hn, hx]

/-- a function is entered -/
theorem enterA_sim (ok : EnvOk Pr E) {dk : Bool} {f : FuncId} {args : List AV} {vs : Array Value} {cs : List AFr} {css : List Frame} (hv : VL Pr ρ args vs.toList) {lo : Nat} (rest : Rs Pr ρ h lo cs css) (wr : WR Pr B w0 ρ h w) (gl : GL Pr ρ) (hlo : lo ≤ h.nxt.toNat) :
    Res1 Pr B w0 tail (lone (Frame.enter Pr f vs (if dk then .deferred else .normal)) (css ++ tail) w) (enterA E dk (P.slot f) args cs h) := by
  unfold enterA
  cases ht : E.tab (P.slot f) with
  | none => trivial
  | some c =>
    simp only
    obtain ⟨f', func, h1, h2, h3⟩ := ok.tab _ _ ht
    have := P.slot_inj h1; subst this
    obtain ⟨b, hb, hn, hc, hr⟩ := cFn_spec h3
    have hfe : Frame.enter Pr f vs (if dk then .deferred else .normal) = { fn := f, tmps := vs ++ Array.replicate (func.ntmps - vs.size) undef, todo := [.code b], defers := [], mode := .run, kind := if dk then .deferred else .normal } := by
      simp [Frame.enter, h2, hb]
    have htm := enterTM hv func.ntmps
    refine ⟨_, css, w, ρ, .refl Pr _, lo, ⟨?_, rest, wr, gl, hlo⟩⟩
    rw [hfe]
    exact ⟨rfl, ⟨func, h2, fun _ => .plain htm (.cons hc .nil), fun t _ => htm.2 t⟩, .nil, trivial, rfl, trivial⟩

theorem bindPs_sound {n : Nat} : ∀ {ps : List Nat} {args : List AV} {vs : List Value} {t t' : T AV} {tmps : Array Value}, bindPs (ps.map P.slot) args t = some t' → VL Pr ρ args vs → (∀ p ∈ ps, p < n) → TM Pr ρ n t tmps →
    TM Pr ρ n t' ((ps.zip vs).foldl (fun tmps (t, a) => tmps.setIfInBounds t a) tmps) ∧ ps.length = vs.length
  | [], [], [], t, t', tmps, hb, .nil, _, k => by
    cases hb; exact ⟨k, rfl⟩
  | p :: ps, a :: args, v :: vs, t, t', tmps, hb, .cons hv hr, hp, k => by
    have hb' : bindPs (ps.map P.slot) args (T.put undefA a (P.slot p) t) = some t' := hb
    obtain ⟨g1, g2⟩ := bindPs_sound hb' hr (fun q hq => hp q (List.mem_cons_of_mem _ hq)) (k.put (hp p (List.mem_cons_self ..)) hv)
    exact ⟨g1, by simp [g2]⟩
  | [], a :: args, _, t, t', tmps, hb, _, _, _ => by cases hb
  | p :: ps, [], _, t, t', tmps, hb, _, _, _ => by cases hb

/-- a round of a loop over a function -/
theorem roundA_sim {dk : Bool} {p : P} {e : BE} (he : ρ p = some e) {args : List AV} {vs : Array Value} {cs : List AFr} {css : List Frame} (hv : VL Pr ρ args vs.toList) {lo : Nat} (rest : Rs Pr ρ h lo cs css) (wr : WR Pr B w0 ρ h w) (gl : GL Pr ρ) (hlo : lo ≤ h.nxt.toNat) :
    (∃ n, roundA dk p args cs h = .fail n) ∨ ∃ f tmps as bd, (Instr.yield e.a vs).run Pr w = .ok (.round e.a f tmps as bd) w ∧
      Res1 Pr B w0 tail (lone (Frame.round e.a f tmps as bd (if dk then .deferred else .normal)) (css ++ tail) w) (roundA dk p args cs h) := by
  unfold roundA
  cases hg : h.get p with
  | loop st pend fn t ps a b d =>
    simp only
    cases hb : bindPs ps args t with
    | none => exact .inl ⟨_, rfl⟩
    | some t' =>
      right
      have hO := wr.obj p e he
      rw [hg] at hO
      obtain ⟨L, o1, o2⟩ := hO
      obtain ⟨l1, l2, l3, ⟨func, m1, m2, m3, m4, m5⟩, l5, l6⟩ := o2
      rw [l5] at hb
      obtain ⟨g1, g2⟩ := bindPs_sound hb hv m5 m4
      have hsz : vs.size = L.params.size := by simpa using g2.symm
      have hgo : (getObj e.a).run Pr w = .ok (.loop L) w := by simp [getObj, Sem.run, o1]
      refine ⟨L.fn, (L.params.zip vs).foldl (fun tmps (t, a) => tmps.setIfInBounds t a) L.tmps, L.assign, L.body, ?_, ?_⟩
      · simp [Instr.yield, Instr.getLoop, hgo, hsz]
      · have hfold : (L.params.zip vs).foldl (fun tmps (t, a) => tmps.setIfInBounds t a) L.tmps = (L.params.toList.zip vs.toList).foldl (fun tmps (t, a) => tmps.setIfInBounds t a) L.tmps := by
          rw [← Array.foldl_toList, Array.toList_zip]
        rw [hfold]
        refine ⟨_, css, w, ρ, .refl Pr _, lo, ⟨?_, rest, wr, gl, hlo⟩⟩
        exact ⟨l3, ⟨func, m1, fun _ => .plain g1 (.cons m2 (.cons trivial (.cons m3 .nil))), fun t _ => g1.2 t⟩, .nil, trivial, rfl, ⟨e, he, rfl⟩⟩
  | _ => exact .inl ⟨_, rfl⟩

theorem run_receiverVia {t u : TypeId} (ht : Pr.underlying t = some (.pointer u)) (v : Value) : (receiverVia t v #[] true).run Pr w = .ok v w := by
  simp [receiverVia, follow, receiverAt, run_underlying ht, Place.get]

/-- what a function value's call invokes -/
theorem run_invoke_fn {first cap : List AV} {fn : Fn} {f : FuncId} {cs xs : Array Value} (hf : isFn Pr fn f first cap) (h2 : VL Pr ρ cap cs.toList) {l : List AV} (hx : VL Pr ρ (first ++ l) xs.toList) :
    ∃ ys : Array Value, (invoke (.fn fn cs) xs).run Pr w = (callFunc f ys).run Pr w ∧ VL Pr ρ (first ++ l ++ cap) ys.toList := by
  rcases hf with rfl | ⟨rfl, hne, t, u, rfl, hu⟩
  · exact ⟨xs ++ cs, rfl, by simpa using hx.append h2⟩
  · refine ⟨xs, ?_, by simpa using hx⟩
    have hsz : 0 < xs.size := by
      have := hx.length
      cases first with
      | nil => exact absurd rfl hne
      | cons _ _ => simp at this; omega
    have h0 : xs[0]? = some xs[0] := by simp
    have hxs : #[xs[0]] ++ xs.extract 1 xs.size = xs := by
      apply Array.ext'
      obtain ⟨l⟩ := xs
      cases l with
      | nil => simp at hsz
      | cons a l => simp
    simp only [invoke, h0, Sem.run_bind, run_receiverVia hu, Result.andThen_ok, hxs]

/-- a call by its number: the machine has made the frame -/
theorem callA_sim (ok : EnvOk Pr E) {f : FuncId} {args : List AV} {vs : Array Value} {fr : AFr} {frc : Frame} {cs : List AFr} {css : List Frame} {lo : Nat} (hfr : FrR Pr ρ h lo h.nxt.toNat fr frc) (hv : VL Pr ρ args vs.toList) (rest : Rs Pr ρ h lo cs css) (wr : WR Pr B w0 ρ h w) (gl : GL Pr ρ) (hlo : lo ≤ h.nxt.toNat)
    (dk : Bool) : (∃ n, callA E dk (P.slot f) args fr cs h = .fail n) ∨ ((callFunc f vs).run Pr w = .ok (.enter f vs) w ∧
      Res1 Pr B w0 tail (lone (Frame.enter Pr f vs (if dk then .deferred else .normal)) (frc :: (css ++ tail)) w) (callA E dk (P.slot f) args fr cs h)) := by
  unfold callA
  cases ho : E.orc (P.slot f) args h with
  | some v =>
    simp only
    cases dk with
    | true => exact .inl ⟨_, rfl⟩
    | false =>
    simp only [cond_false]
    cases hfin : finishA fr v with
    | none => exact .inl ⟨_, rfl⟩
    | some c =>
      right
      obtain ⟨f', func, h1, h2, h3, h4, h5⟩ := ok.orc _ _ _ _ ho
      have := P.slot_inj h1; subst this
      refine ⟨run_callFunc h2 h3 h4 vs, ?_⟩
      obtain ⟨e, w', fr2, ⟨v', ρ', rfl, g2, g3, g4⟩, hcome, hfn, hleave⟩ := h5 B w0 ρ w vs gl wr hv (frc :: (css ++ tail))
      have hst : Steps Pr (lone (Frame.enter Pr f vs .normal) (frc :: (css ++ tail)) w) (lone (frc.finish v') (css ++ tail) w') :=
        Steps.trans hcome (.one (step_leave_returned hleave))
      exact ⟨_, css, w', ρ', hst, lo, ⟨finish_sim (hfr.mono g4) g2 hfin, rest.mono g4 hlo, g3, gl.mono g4.ext, Nat.le_trans hlo g4.nxt⟩⟩
  | none =>
    simp only
    cases ht : E.tab (P.slot f) with
    | none => exact .inl ⟨103, by simp [enterA, ht]⟩
    | some c =>
      right
      obtain ⟨f', func, h1, h2, h3⟩ := ok.tab _ _ ht
      have := P.slot_inj h1; subst this
      obtain ⟨b, hb, hn, _, _⟩ := cFn_spec h3
      exact ⟨run_callFunc h2 (by rw [hb]; rfl) hn vs, enterA_sim (css := frc :: css) ok hv (.cons hlo hfr rest) wr gl (Nat.le_refl _)⟩

end
end Go.Proofs.YtlklnffmhclioaaGreatDoor.Ev

namespace Go.Proofs.YtlklnffmhclioaaGreatDoor.Ev
open Go.RowKit

section
variable {Pr : Program} {B : Nat} {w0 w : World} {tail : List Frame} {ρ : En} {h : AH} {E : Env}

/-- the call of a function value -/
theorem callfn_sim (ok : EnvOk Pr E) {p : P} {f : FuncId} {first cap l : List AV} {fn : Fn} {cs' xs : Array Value} (hp : p = P.slot f) (hf : isFn Pr fn f first cap) (h2 : VL Pr ρ cap cs'.toList) (hx : VL Pr ρ (first ++ l) xs.toList)
    {fr : AFr} {frc : Frame} {cs : List AFr} {css : List Frame} {lo : Nat} (hfr : FrR Pr ρ h lo h.nxt.toNat fr frc) (rest : Rs Pr ρ h lo cs css) (wr : WR Pr B w0 ρ h w) (gl : GL Pr ρ) (hlo : lo ≤ h.nxt.toNat) (dk : Bool) :
    (∃ n, callA E dk p (first ++ l ++ cap) fr cs h = .fail n) ∨ ∃ ys, (invoke (.fn fn cs') xs).run Pr w = .ok (.enter f ys) w ∧
      Res1 Pr B w0 tail (lone (Frame.enter Pr f ys (if dk then .deferred else .normal)) (frc :: (css ++ tail)) w) (callA E dk p (first ++ l ++ cap) fr cs h) := by
  obtain ⟨ys, g1, g2⟩ := run_invoke_fn (w := w) hf h2 hx
  subst hp
  rcases callA_sim (tail := tail) (B := B) (w0 := w0) ok hfr g2 rest wr gl hlo dk with g | ⟨g3, g4⟩
  · exact .inl g
  · exact .inr ⟨ys, by rw [g1, g3], g4⟩

theorem callv_sim (ok : EnvOk Pr E) {fv : AV} {v0 : Value} {args : List AV} {vs : Array Value} (hv0 : V Pr ρ fv v0) (hv : VL Pr ρ args vs.toList)
    {fr : AFr} {frc : Frame} {cs : List AFr} {css : List Frame} {lo : Nat} (hfr : FrR Pr ρ h lo h.nxt.toNat fr frc) (rest : Rs Pr ρ h lo cs css) (wr : WR Pr B w0 ρ h w) (gl : GL Pr ρ) (hlo : lo ≤ h.nxt.toNat) :
    (∃ n, callvA E false fv args fr cs h = .fail n) ∨
    (∃ f ys, (do let d ← Deferred.ofValue v0 vs; invoke d.target d.args : Sem Next).run Pr w = .ok (.enter f ys) w ∧
      Res1 Pr B w0 tail (lone (Frame.enter Pr f ys .normal) (frc :: (css ++ tail)) w) (callvA E false fv args fr cs h)) ∨
    (∃ l f tmps as bd, (do let d ← Deferred.ofValue v0 vs; invoke d.target d.args : Sem Next).run Pr w = .ok (.round l f tmps as bd) w ∧
      Res1 Pr B w0 tail (lone (Frame.round l f tmps as bd .normal) (frc :: (css ++ tail)) w) (callvA E false fv args fr cs h)) := by
  cases hv0 with
  | fn hp hf h1 h2 =>
    rename_i p first cap fn f fs cs'
    rcases callfn_sim (tail := tail) (B := B) (w0 := w0) (xs := fs ++ vs) ok hp hf h2 (by simpa using h1.append hv) hfr rest wr gl hlo false with g | ⟨ys, g1, g2⟩
    · exact .inl g
    · exact .inr (.inl ⟨f, ys, by simpa [Deferred.ofValue] using g1, g2⟩)
  | yld he =>
    rename_i p e
    rcases roundA_sim (dk := false) (tail := tail) (B := B) (w0 := w0) (cs := fr :: cs) (css := frc :: css) he hv (.cons hlo hfr rest) wr gl (Nat.le_refl _) with g | ⟨f, tmps, as, bd, g1, g2⟩
    · exact .inl g
    · refine .inr (.inr ⟨e.a, f, tmps, as, bd, ?_, g2⟩)
      simpa [Deferred.ofValue, invoke] using g1
  | _ => exact .inl ⟨_, rfl⟩

theorem step_recovers {fr : Frame} (hm : fr.mode = .run) {ops : Array Oper} {i : Nat} {is : List Nat} {k : List Item} (ht : fr.todo = .inRegion ops (i :: is) :: k) {o : Oper} (ho : ops[i]? = some o)
    (hw : Region.wanted o (yielded ops fr.tmps) = true) (hro : fr.roundOf = none) (cs : List Frame) {w' : World} (hg : (execOp (act fr).eval o).run Pr w = .ok .recover w') :
    step Pr (lone fr cs w) = match tryRecover fr cs with
      | some (v, cs2) => .next (lone (fr.finish v) cs2 w')
      | none => .next (lone (fr.finish .nilIface) cs w') := by
  cases htr : tryRecover fr cs with
  | none =>
    refine step_lone_go ?_
    rw [stepG_op' hm ht ho hw (.inl hro)]
    simp [stepG.apply, Sem.runT_eq, hg, hro, htr]
  | some q =>
    obtain ⟨v, cs2⟩ := q
    refine step_lone_go ?_
    rw [stepG_op' hm ht ho hw (.inl hro)]
    simp [stepG.apply, Sem.runT_eq, hg, hro, htr]

theorem Res1.fail {m : Machine} {r : R} (h : ∃ n, r = .fail n) : Res1 Pr B w0 tail m r := by
  obtain ⟨n, rfl⟩ := h; trivial

theorem roN {p : Option P} {m : Option Nat} (k : RoR ρ p m) (hp : p = none) : m = none := by
  subst hp; cases m with
  | none => rfl
  | some _ => exact k.elim

theorem finishA_reg {tm : T AV} {gi : GI} {rest : List GI} {k : List AItem} {mt : AMeta} (hm : mt.md = .run) (x : AV) : finishA ⟨tm, .act (gi :: rest) :: k, mt⟩ x = some ⟨putD tm x gi.d, .reg rest :: k, mt⟩ := by simp [finishA, hm, isRun]

theorem finishA_nil {tm : T AV} {k : List AItem} {mt : AMeta} (x : AV) : finishA ⟨tm, .act [] :: k, mt⟩ x = none := by unfold finishA; cases isRun mt.md <;> rfl

theorem stopA_sim (ok : EnvOk Pr E) {tm : T AV} {rest : List GI} {k : List AItem} {mt : AMeta} {cs : List AFr} {fr : Frame} {css : List Frame} {r : IR} (hm : mt.md = .run)
    {lo : Nat} (s : Stops Pr B w0 tail tm rest k mt cs h fr css w ρ lo r) : ResR Pr B w0 tail (lone fr (css ++ tail) w) (stopA E tm (.act rest :: k) mt cs h r) := by
  obtain ⟨⟨top, rst, wr, gl, hlo⟩, ops, i, is, k', o, ht, ho, hw, hs, hnd⟩ := s
  have hmode := top.run hm
  cases r with
  | call f args =>
    obtain ⟨f', vs, rfl, h1, h2⟩ := hs
    refine Res1.up ?_
    rcases callA_sim (tail := tail) (B := B) (w0 := w0) ok top h1 rst wr gl hlo false with g | ⟨g1, g2⟩
    · exact Res1.fail g
    · exact Res1.of_steps (.one (step_enters hmode ht ho hw (.inr (hnd (fun _ => by simp) (fun _ => by simp))) _ (h2.trans g1))) g2
  | callv fv args =>
    obtain ⟨v0, vs, h0, h1, h2⟩ := hs
    refine Res1.up ?_
    rcases callv_sim (tail := tail) (B := B) (w0 := w0) ok h0 h1 top rst wr gl hlo with g | ⟨f, ys, g1, g2⟩ | ⟨l, f, tmps, as, bd, g1, g2⟩
    · exact Res1.fail g
    · exact Res1.of_steps (.one (step_enters hmode ht ho hw (.inr (hnd (fun _ => by simp) (fun _ => by simp))) _ (h2.trans g1))) g2
    · exact Res1.of_steps (.one (step_rounds hmode ht ho hw (.inr (hnd (fun _ => by simp) (fun _ => by simp))) _ (h2.trans g1))) g2
  | defer d =>
    obtain ⟨cd, h1, h2⟩ := hs
    refine Res1.up ?_
    show Res1 _ _ _ _ _ (match mt.ro, finishA ⟨tm, .act rest :: k, mt⟩ undefA with
      | none, some c => .next c.tm c.todo ⟨mt.fn, d :: mt.df, mt.md, mt.dk, none⟩ cs h
      | _, _ => .fail 107)
    cases hro : mt.ro with
    | some _ => trivial
    | none =>
    cases rest with
    | nil => rw [finishA_nil]; trivial
    | cons gi rest' =>
      rw [finishA_reg hm]
      simp only
      have hrn := roN top.ro hro
      have hst := step_defers hmode ht ho hw (.inl hrn) (css ++ tail) h1
      have top2 : FrR Pr ρ h lo h.nxt.toNat ⟨tm, .act (gi :: rest') :: k, ⟨mt.fn, d :: mt.df, mt.md, mt.dk, none⟩⟩ { fr with defers := cd :: fr.defers } :=
        ⟨top.fn, top.st, .cons h2 top.df, top.md, top.kd, by show RoR ρ none fr.roundOf; rw [hrn]; trivial⟩
      have := finish_sim top2 (x := undefA) (v := undef) .undef (finishA_reg (mt := ⟨mt.fn, d :: mt.df, mt.md, mt.dk, none⟩) hm undefA)
      exact ⟨_, css, w, ρ, .one hst, lo, ⟨this, rst, wr, gl, hlo⟩⟩
  | recover =>
    refine Res1.up ?_
    have h1 : (execOp (act fr).eval o).run Pr w = .ok .recover w := hs
    cases hro : mt.ro with
    | some _ => simp only [stopA, hro]; trivial
    | none =>
    have hrn := roN top.ro hro
    have hst := step_recovers hmode ht ho hw hrn (css ++ tail) h1
    have plain : tryRecover fr (css ++ tail) = none → Res1 Pr B w0 tail (lone fr (css ++ tail) w)
        (match finishA ⟨tm, .act rest :: k, mt⟩ .iface0 with | some a => .next a.tm a.todo a.mt cs h | none => .fail 108) := by
      intro hn
      rw [hn] at hst
      cases rest with
      | nil => rw [finishA_nil]; trivial
      | cons gi rest' =>
        rw [finishA_reg hm]
        exact ⟨_, css, w, ρ, .one hst, lo, ⟨finish_sim top .iface0 (finishA_reg hm .iface0), rst, wr, gl, hlo⟩⟩
    simp only [stopA, hro]
    cases hdk : mt.dk with
    | false =>
      have hk : fr.kind = .normal := by have := top.kd; simpa [hdk] using this
      exact plain (by simp [tryRecover, hk])
    | true =>
      have hk : fr.kind = .deferred := by have := top.kd; simpa [hdk] using this
      cases cs with
      | nil => trivial
      | cons c rest2 =>
        cases rst with
        | cons hl hc hrest =>
        rename_i lo2 fc fcs
        have hmd := hc.md
        have other : (∀ v older, c.mt.md ≠ .panicking (⟨v, false⟩ :: older)) → tryRecover fr (fc :: fcs ++ tail) = none := by
          intro hne
          show tryRecover fr (fc :: (fcs ++ tail)) = none
          unfold tryRecover
          rw [hk]
          simp only
          cases hmm : fc.mode with
          | run => rfl
          | returning => rfl
          | panicking ch =>
            rw [hmm] at hmd
            cases hcm : c.mt.md with
            | run => rw [hcm] at hmd; exact hmd.elim
            | returning => rw [hcm] at hmd; exact hmd.elim
            | panicking ach =>
              rw [hcm] at hmd
              cases hmd with
              | nil => rfl
              | cons ha hr =>
                rename_i a e l r
                obtain ⟨pv, prc, pge⟩ := ha
                obtain ⟨av, arc⟩ := a
                cases arc with
                | false => exact absurd hcm (hne av l)
                | true =>
                  obtain ⟨ev, er, eg⟩ := e
                  simp only at prc pge
                  subst prc pge
                  rfl
        simp only
        cases hcm : c.mt.md with
        | run => exact plain (other (by intro v o hh; rw [hcm] at hh; cases hh))
        | returning => exact plain (other (by intro v o hh; rw [hcm] at hh; cases hh))
        | panicking ach =>
          cases ach with
          | nil => exact plain (other (by intro v o hh; rw [hcm] at hh; cases hh))
          | cons a older =>
            obtain ⟨av, arc⟩ := a
            cases arc with
            | true => exact plain (other (by intro v o hh; rw [hcm] at hh; cases hh))
            | false =>
              simp only
              rw [hcm] at hmd
              cases hmm : fc.mode with
              | run => rw [hmm] at hmd; exact hmd.elim
              | returning => rw [hmm] at hmd; exact hmd.elim
              | panicking ch =>
                rw [hmm] at hmd
                cases hmd with
                | cons ha hr =>
                  rename_i e r
                  obtain ⟨pv, prc, pge⟩ := ha
                  obtain ⟨ev, er, eg⟩ := e
                  simp only at prc pge pv
                  subst prc pge
                  have htr : tryRecover fr (fc :: fcs ++ tail) = some (ev, { fc with mode := .panicking ({ v := ev, recovered := true } :: r) } :: (fcs ++ tail)) := by
                    show tryRecover fr (fc :: (fcs ++ tail)) = _
                    unfold tryRecover
                    rw [hk]
                    simp only [hmm]
                  rw [htr] at hst
                  cases rest with
                  | nil => rw [finishA_nil]; trivial
                  | cons gi rest' =>
                    rw [finishA_reg hm]
                    refine ⟨_, { fc with mode := .panicking ({ v := ev, recovered := true } :: r) } :: fcs, w, ρ, .one hst, lo, ⟨finish_sim top pv (finishA_reg hm av), .cons hl ?_ hrest, wr, gl, hlo⟩⟩
                    obtain ⟨k1, ⟨func, g1, g2, g3⟩, k3, k4, k5, k6⟩ := hc
                    exact ⟨k1, ⟨func, g1, fun hh => (by cases hh), g3⟩, k3, .cons ⟨pv, rfl, rfl⟩ hr, k5, k6⟩
  | panic v =>
    obtain ⟨x, h1, h2⟩ := hs
    refine Res1.up ?_
    have hst := step_panics hmode ht ho hw (.inr (hnd (fun _ => by simp) (fun _ => by simp))) (css ++ tail) h1
    refine ⟨_, css, w, ρ, .one hst, lo, ⟨?_, rst, wr, gl, hlo⟩⟩
    obtain ⟨k1, ⟨func, g1, g2, g3⟩, k3, k4, k5, k6⟩ := top
    have hr : fr.raise [{ v := x, recovered := false }] = { fr with mode := .panicking [{ v := x, recovered := false }] } := by simp [Frame.raise, hmode]
    rw [hr]
    exact ⟨k1, ⟨func, g1, fun hh => (by cases hh), g3⟩, k3, .cons ⟨h2, rfl, rfl⟩ .nil, k5, k6⟩
  | br l =>
    obtain ⟨q, hq, v, w', g1, g2, g3, g4⟩ := hs
    show ∃ r ∈ l.map _, Res1 _ _ _ _ _ r
    refine ⟨_, List.mem_map.2 ⟨q, hq, rfl⟩, ?_⟩
    cases rest with
    | nil => rw [finishA_nil]; trivial
    | cons gi rest' =>
      rw [finishA_reg hm]
      have hst := step_gives hmode ht ho hw (.inr (hnd (fun _ => by simp) (fun _ => by simp))) (css ++ tail) g1
      exact ⟨_, css, w', ρ, .one hst, lo, ⟨finish_sim (top.mono g4) g2 (finishA_reg hm q.1), rst.mono g4 hlo, g3, gl, Nat.le_trans hlo g4.nxt⟩⟩
  | fail n => trivial
  | v _ => trivial
  | vh _ _ => trivial

end
end Go.Proofs.YtlklnffmhclioaaGreatDoor.Ev

namespace Go.Proofs.YtlklnffmhclioaaGreatDoor.Ev
open Go.RowKit

section
variable {Pr : Program} {B : Nat} {w0 w : World} {tail : List Frame} {ρ : En} {h : AH} {E : Env}

theorem step_range_enter {fr : Frame} (hm : fr.mode = .run) {f : Operand} {ps : Array Tmp} {as bd : Code} {k : List Item} (ht : fr.todo = .code (.rangeFunc f ps as bd) :: k) {l : Nat} {mark : List Deferred} {w2 : World}
    (he : (Instr.enterLoop fr.fn fr.tmps ps as bd fr.roundOf).run Pr w = .ok (l, mark) w2) {g : FuncId} {ys : Array Value}
    (hc : (do let d ← Deferred.ofValue ((act fr).eval f) #[.func (.yield l) #[] #[]]; invoke d.target d.args : Sem Next).run Pr w2 = .ok (.enter g ys) w2) (cs : List Frame) :
    step Pr (lone fr cs w) = .next (lone (Frame.enter Pr g ys .normal) ({ fr with todo := .inRangeFunc l :: k, defers := mark ++ fr.defers } :: cs) w2) := by
  obtain ⟨fn, tmps, todo, defers, mode, kind, ro⟩ := fr
  simp only at hm ht he hc
  subst hm ht
  have hev : Frame.eval { fn := fn, tmps := tmps, todo := .inRangeFunc l :: k, defers := mark ++ defers, mode := .run, kind := kind, roundOf := ro } = (act { fn := fn, tmps := tmps, todo := .code (.rangeFunc f ps as bd) :: k, defers := defers, mode := .run, kind := kind, roundOf := ro }).eval := by
    funext x; cases x <;> rfl
  have hr : (do let d ← resolve (Frame.eval { fn := fn, tmps := tmps, todo := .inRangeFunc l :: k, defers := mark ++ defers, mode := .run, kind := kind, roundOf := ro }) { callee := .value f, args := #[.const (.func (.yield l) #[] #[])], argTypes := #[] } 0; invoke d.target d.args : Sem Next).run Pr w2 = .ok (.enter g ys) w2 := by
    rw [hev]
    have hm1 : ∀ (A : Act) (v : Value), Array.map A.eval #[Operand.const v] = #[v] := fun A v => by simp [Act.eval]
    simp only [resolve, hm1]
    exact hc
  refine step_lone_go ?_
  simp only [stepG, stepG.exec, Sem.runT_eq, he, stepG.apply, if_true, hr]
  simp

theorem step_range_round {fr : Frame} (hm : fr.mode = .run) {f : Operand} {ps : Array Tmp} {as bd : Code} {k : List Item} (ht : fr.todo = .code (.rangeFunc f ps as bd) :: k) {l : Nat} {mark : List Deferred} {w2 : World}
    (he : (Instr.enterLoop fr.fn fr.tmps ps as bd fr.roundOf).run Pr w = .ok (l, mark) w2) {l2 : Nat} {g : FuncId} {tmps2 : Array Value} {as2 bd2 : Code}
    (hc : (do let d ← Deferred.ofValue ((act fr).eval f) #[.func (.yield l) #[] #[]]; invoke d.target d.args : Sem Next).run Pr w2 = .ok (.round l2 g tmps2 as2 bd2) w2) (cs : List Frame) :
    step Pr (lone fr cs w) = .next (lone (Frame.round l2 g tmps2 as2 bd2 .normal) ({ fr with todo := .inRangeFunc l :: k, defers := mark ++ fr.defers } :: cs) w2) := by
  obtain ⟨fn, tmps, todo, defers, mode, kind, ro⟩ := fr
  simp only at hm ht he hc
  subst hm ht
  have hev : Frame.eval { fn := fn, tmps := tmps, todo := .inRangeFunc l :: k, defers := mark ++ defers, mode := .run, kind := kind, roundOf := ro } = (act { fn := fn, tmps := tmps, todo := .code (.rangeFunc f ps as bd) :: k, defers := defers, mode := .run, kind := kind, roundOf := ro }).eval := by
    funext x; cases x <;> rfl
  have hr : (do let d ← resolve (Frame.eval { fn := fn, tmps := tmps, todo := .inRangeFunc l :: k, defers := mark ++ defers, mode := .run, kind := kind, roundOf := ro }) { callee := .value f, args := #[.const (.func (.yield l) #[] #[])], argTypes := #[] } 0; invoke d.target d.args : Sem Next).run Pr w2 = .ok (.round l2 g tmps2 as2 bd2) w2 := by
    rw [hev]
    have hm1 : ∀ (A : Act) (v : Value), Array.map A.eval #[Operand.const v] = #[v] := fun A v => by simp [Act.eval]
    simp only [resolve, hm1]
    exact hc
  refine step_lone_go ?_
  simp only [stepG, stepG.exec, Sem.runT_eq, he, stepG.apply, if_true, hr]
  simp

/-- a frame that runs: what is known of it -/
theorem FrR.plain {tm : T AV} {todo : List AItem} {mt : AMeta} {fr : Frame} {lo hi : Nat} (k : FrR Pr ρ h lo hi ⟨tm, todo, mt⟩ fr) (hm : mt.md = .run) (h1 : ∀ l k, todo ≠ .reg l :: k) (h2 : ∀ l k, todo ≠ .act l :: k) :
    ∃ func, Pr.funcs[fr.fn]? = some func ∧ TM Pr ρ func.ntmps tm fr.tmps ∧ All2 (ItR Pr ρ func.ntmps (resT func.results.toList)) todo fr.todo := by
  obtain ⟨k1, ⟨func, g1, g2, g3⟩, k3, k4, k5, k6⟩ := k
  cases g2 hm with
  | plain t i => exact ⟨func, g1, t, i⟩
  | drawn e1 => exact absurd e1 (h1 _ _)
  | acting e1 => exact absurd e1 (h2 _ _)

/-- a loop over a function begins -/
theorem rfA_sim (ok : EnvOk Pr E) {tm : T AV} {k : List AItem} {mt : AMeta} {cs : List AFr} {fr : Frame} {css : List Frame} {fo : Opd} {ps : List P} {a b : CC} {lo : Nat} (s : St Pr B w0 tail tm (.code (.rf fo ps a b) :: k) mt cs h fr css w ρ lo) (hm : mt.md = .run)
    {f : Operand} {pa : Array Tmp} {as bd : Code} {k' : List Item} (ht : fr.todo = .code (.rangeFunc f pa as bd) :: k') {func : Func} (hf : Pr.funcs[fr.fn]? = some func) (t : TM Pr ρ func.ntmps tm fr.tmps)
    (hk : All2 (ItR Pr ρ func.ntmps (resT func.results.toList)) k k') (hfo : cOpd Pr f = some fo) (ha : cCode Pr func.ntmps (resT func.results.toList) as = some a) (hb : cCode Pr func.ntmps (resT func.results.toList) bd = some b)
    (hps : ps = pa.toList.map P.slot) (hpl : ∀ t ∈ pa.toList, t < func.ntmps) : Res1 Pr B w0 tail (lone fr (css ++ tail) w) (rfA E (opd tm fo) ps a b tm k mt cs h) := by
  have hmode := s.top.run hm
  have hfv : V Pr ρ (opd tm fo) ((act fr).eval f) := (OP.of (a := act fr) s.gl f fun t' _ => t.2 t') fo hfo
  have hn := (s.wr.fresh h.nxt (Nat.le_refl _)).1
  -- once the blocks are made
  have fin : ∀ {h2 : AH} {w2 : World} {ρ2 : En} {mt2 : AMeta} {mark : List Deferred} {e : BE} {d : P}, WR Pr B w0 ρ2 h2 w2 → Evo ρ ρ2 h h2 → (∃ e', ρ2 d = some e' ∧ e'.a = e.a) → mt2.fn = mt.fn → mt2.md = mt.md → mt2.dk = mt.dk → mt2.ro = mt.ro →
      All2 (DR Pr ρ2) mt2.df (mark ++ fr.defers) →
      (Instr.enterLoop fr.fn fr.tmps pa as bd fr.roundOf).run Pr w = .ok (w2.heap.size, mark) { w2 with heap := w2.heap.push (.loop { state := .ready, pending := none, fn := fr.fn, tmps := fr.tmps, params := pa, assign := as, body := bd, defers := e.a }) } →
      Res1 Pr B w0 tail (lone fr (css ++ tail) w) (callvA E false (opd tm fo) [.yld h2.nxt] ⟨tm, .rf h2.nxt :: k, mt2⟩ cs (h2.new (.loop .ready .none mt.fn tm ps a b d))) := by
    intro h2 w2 ρ2 mt2 mark e d hw2 hev ⟨e', hd1, hd2⟩ m1 m2 m3 m4 hdf hent
    have hn2 := (hw2.fresh h2.nxt (Nat.le_refl _)).1
    have hx : Ext ρ2 (upd ρ2 h2.nxt ⟨w2.heap.size, 0, 0, 0⟩) := Ext.upd _ hn2
    have hw3 : WR Pr B w0 (upd ρ2 h2.nxt ⟨w2.heap.size, 0, 0, 0⟩) (h2.new (.loop .ready .none mt.fn tm ps a b d)) { w2 with heap := w2.heap.push (.loop { state := .ready, pending := none, fn := fr.fn, tmps := fr.tmps, params := pa, assign := as, body := bd, defers := e.a }) } :=
      hw2.alloc rfl rfl rfl rfl rfl ⟨_, rfl, ⟨trivial, rfl, s.top.fn, ⟨func, hf, ha, hb, (t.mono hev.ext).mono hx, hpl⟩, hps, ⟨e', hx _ _ hd1, hd2.symm⟩⟩⟩
    have hev3 : Evo ρ (upd ρ2 h2.nxt ⟨w2.heap.size, 0, 0, 0⟩) h (h2.new (.loop .ready .none mt.fn tm ps a b d)) := hev.trans (hw2.evo_alloc _ _)
    have htop : FrR Pr (upd ρ2 h2.nxt ⟨w2.heap.size, 0, 0, 0⟩) (h2.new (.loop .ready .none mt.fn tm ps a b d)) lo (h2.new (.loop .ready .none mt.fn tm ps a b d)).nxt.toNat ⟨tm, .rf h2.nxt :: k, mt2⟩ { fr with todo := .inRangeFunc w2.heap.size :: k', defers := mark ++ fr.defers } := by
      have t3 := t.mono hev3.ext
      refine ⟨m1.trans s.top.fn, ⟨func, hf, fun _ => .plain t3 (.cons ⟨_, upd_same _ _ _, rfl⟩ (hk.imp fun _ _ g => g.mono hev3.ext)), fun t' _ => t3.2 t'⟩, hdf.imp fun _ _ g => g.mono hx, ?_, ?_, ?_⟩
      · show MR Pr _ mt2.md fr.mode
        rw [m2]; exact s.top.md.mono hev3.ext
      · show fr.kind = if mt2.dk then .deferred else .normal
        rw [m3]; exact s.top.kd
      · show RoR _ mt2.ro fr.roundOf
        rw [m4]; exact s.top.ro.mono hev3.ext
    have hyl : VL Pr (upd ρ2 h2.nxt ⟨w2.heap.size, 0, 0, 0⟩) [.yld h2.nxt] (#[.func (.yield w2.heap.size) #[] #[]] : Array Value).toList := .cons (.yld (upd_same _ _ _)) .nil
    rcases callv_sim (tail := tail) (B := B) (w0 := w0) ok (hfv.mono hev3.ext) hyl htop (s.rest.mono hev3 s.hlo) hw3 (s.gl.mono hev3.ext) (Nat.le_trans s.hlo hev3.nxt) with g | ⟨g, ys, g1, g2⟩ | ⟨l, g, tmps, as', bd', g1, g2⟩
    · exact Res1.fail g
    · exact Res1.of_steps (.one (step_range_enter hmode ht hent g1 _)) g2
    · exact Res1.of_steps (.one (step_range_round hmode ht hent g1 _)) g2
  have hro := s.top.ro
  unfold rfA
  cases hro' : mt.ro with
  | some l =>
    simp only
    cases hg : h.get l with
    | loop st pend fn t0 ps0 a0 b0 d =>
      simp only
      rw [show (⟨tm, .code (.rf fo ps a b) :: k, mt⟩ : AFr).mt.ro = some l from hro'] at hro
      cases hfr : fr.roundOf with
      | none => rw [hfr] at hro; exact hro.elim
      | some ln =>
        rw [hfr] at hro
        obtain ⟨e, e1, e2⟩ := hro
        have hO := s.wr.obj l e e1
        rw [hg] at hO
        obtain ⟨L, o1, o2⟩ := hO
        obtain ⟨ed, d1, d2⟩ := o2.df
        refine fin (mark := []) (e := ed) s.wr (.refl ρ h) ⟨ed, d1, rfl⟩ rfl rfl rfl rfl s.top.df ?_
        have hgo : (getObj e.a).run Pr w = .ok (.loop L) w := by simp [getObj, Sem.run, o1]
        rw [hfr, ← e2]
        simp [Instr.enterLoop, Instr.getLoop, hgo, d2]
    | _ => trivial
  | none =>
    simp only
    have hrn := roN s.top.ro hro'
    have hw1 : WR Pr B w0 (upd ρ h.nxt ⟨w.heap.size, 0, 0, 0⟩) (h.new (.deferred (some []))) { w with heap := w.heap.push (.deferred (some [])) } := s.wr.alloc rfl rfl rfl rfl rfl ⟨[], rfl, .nil⟩
    have hx1 : Ext ρ (upd ρ h.nxt ⟨w.heap.size, 0, 0, 0⟩) := Ext.upd _ hn
    refine fin (mark := [{ target := .collected w.heap.size, args := #[] }]) (e := ⟨w.heap.size, 0, 0, 0⟩) (mt2 := ⟨mt.fn, ⟨.ptr h.nxt 0, []⟩ :: mt.df, mt.md, mt.dk, none⟩) hw1 (s.wr.evo_alloc _ _) ⟨_, upd_same _ _ _, rfl⟩ rfl rfl rfl hro'.symm ?_ ?_
    · exact .cons (.coll (e := ⟨w.heap.size, 0, 0, 0⟩) (upd_same _ _ _)) (s.top.df.imp fun _ _ g => g.mono hx1)
    · rw [hrn]
      simp [Instr.enterLoop]
      rfl

end
end Go.Proofs.YtlklnffmhclioaaGreatDoor.Ev

namespace Go.Proofs.YtlklnffmhclioaaGreatDoor.Ev
open Go.RowKit

section
variable {Pr : Program} {B : Nat} {w0 w : World} {tail : List Frame} {ρ : En} {h : AH} {E : Env}

/-- an item is gone, others stand in its place -/
theorem goTo {lo : Nat} {tm : T AV} {todo todo2 : List AItem} {mt : AMeta} {cs : List AFr} {fr : Frame} {css : List Frame} (s : St Pr B w0 tail tm todo mt cs h fr css w ρ lo) {func : Func} (hf : Pr.funcs[fr.fn]? = some func) (t : TM Pr ρ func.ntmps tm fr.tmps)
    {todo2' : List Item} (i : All2 (ItR Pr ρ func.ntmps (resT func.results.toList)) todo2 todo2') (hs : step Pr (lone fr (css ++ tail) w) = .next (lone { fr with todo := todo2' } (css ++ tail) w)) :
    Res1 Pr B w0 tail (lone fr (css ++ tail) w) (.next tm todo2 mt cs h) := ⟨_, css, w, ρ, .one hs, lo, ⟨s.top.to hf t i, s.rest, s.wr, s.gl, s.hlo⟩⟩

theorem cGIs_regR {n : Nat} {ops : Array Oper} {l : List GI} (hc : cGIs Pr n ops.toList ops.toList = some l) : RegR Pr n l ops (List.range ops.size) := by
  refine ⟨ops.toList, ?_, hc⟩
  apply List.ext_getElem?
  intro i
  by_cases hi : i < ops.size
  · simp [hi]
  · simp [hi]

theorem cDrawn_spec {n : Nat} {rs : List Nat} {ops : Array Oper} {l : List GI} (h : cDrawn Pr n rs ops.toList = some l) :
    ∃ gis cl an pl, DC Pr n rs ops gis cl an ∧ planOk ops.size cl an pl 0 0 0 = true ∧ cPI gis pl = some l := by
  unfold cDrawn at h
  obtain ⟨gis, hg, h⟩ := bind_some h
  dsimp only at h
  split at h
  · rename_i hh
    simp only [Bool.and_eq_true] at hh
    obtain ⟨⟨⟨h2, h3⟩, h4⟩, h5⟩ := hh
    exact ⟨gis, cls ops.toList gis, ancL ops.toList [], _, ⟨hg, rfl, rfl, h2, h3, h4⟩, h5, h⟩
  · cases h

theorem codeA_sim (ok : EnvOk Pr E) {lo : Nat} {c : CC} {tm : T AV} {k : List AItem} {mt : AMeta} {cs : List AFr} {fr : Frame} {css : List Frame} (s : St Pr B w0 tail tm (.code c :: k) mt cs h fr css w ρ lo) (hm : mt.md = .run) :
    Res1 Pr B w0 tail (lone fr (css ++ tail) w) (codeA E c tm k mt cs h) := by
  have hmode := s.top.run hm
  obtain ⟨func, hf, t, i⟩ := s.top.plain hm (fun _ _ hh => by cases hh) (fun _ _ hh => by cases hh)
  generalize htd : fr.todo = todo' at i
  cases i with
  | cons hx hi =>
  rename_i y k'
  cases y <;> first | exact hx.elim | skip
  rename_i C
  have hx : cCode Pr func.ntmps (resT func.results.toList) C = some c := hx
  have lit : ∀ {todo2 : List Item}, (stepG Pr true { frame := { fr with mode := .run, todo := .code C :: k' }, callers := css ++ tail, status := .running, dying := none } w).bare = .go { frame := { fr with mode := .run, todo := todo2 }, callers := css ++ tail, status := .running, dying := none } w →
      step Pr (lone fr (css ++ tail) w) = .next (lone { fr with todo := todo2 } (css ++ tail) w) := by
    intro todo2 hs
    have e1 : { fr with mode := .run, todo := .code C :: k' } = fr := by
      obtain ⟨fn, tmps, todo, defers, mode, kind, ro⟩ := fr; simp only at hmode htd; subst hmode htd; rfl
    have e2 : { fr with mode := .run, todo := todo2 } = { fr with todo := todo2 } := by
      obtain ⟨fn, tmps, todo, defers, mode, kind, ro⟩ := fr; simp only at hmode htd; subst hmode; rfl
    rw [e1, e2] at hs
    exact step_lone_go hs
  cases C with
  | skip => cases hx; exact goTo s hf t hi (lit (by simp [stepG, stepG.exec]))
  | region id ops d =>
    simp only [cCode] at hx
    cases d with
    | true =>
      simp only [if_true, Option.map_eq_some_iff] at hx
      obtain ⟨l, hl, rfl⟩ := hx
      obtain ⟨gis, cl, an, pl, dc, hp, hc⟩ := cDrawn_spec hl
      have hs := stepR_region_draw (P := Pr) (b := fr) (a := act fr) (k := k') (cs := css ++ tail) (w := w) (ops := ops) (id := id)
      have e1 : fr.atR (act fr) (.code (.region id ops true) :: k') = fr := atR_self hmode htd
      rw [e1] at hs
      have e2 : ∀ td, fr.atR (act fr) td = { fr with todo := td } := by
        intro td
        obtain ⟨fn, tmps, todo', defers, mode, kind, ro⟩ := fr
        simp only at hmode; subst hmode; rfl
      rw [e2] at hs
      refine ⟨_, css, _, ρ, .one hs, lo, ⟨?_, s.rest, s.wr.drew rfl rfl rfl rfl, s.gl, s.hlo⟩⟩
      exact ⟨s.top.fn, ⟨func, hf, fun _ => .drawn rfl rfl hi (schedule_Sch dc.reg _ _) hc hp (Dr.start (pth := fun _ => .z) dc t) (fun j hj => by simp at hj), fun t' _ => t.2 t'⟩, s.top.df, s.top.md, s.top.kd, s.top.ro⟩
    | false =>
      simp only [Bool.false_eq_true, if_false, Option.map_eq_some_iff] at hx
      obtain ⟨l, hl, rfl⟩ := hx
      refine goTo s hf t (todo2' := .inRegion ops (List.range ops.size) :: k') (.cons (cGIs_regR hl) hi) (lit (by simp [stepG, stepG.exec]))
  | seq a b =>
    simp only [cCode] at hx
    cases ha : cCode Pr func.ntmps (resT func.results.toList) a with
    | none => rw [ha] at hx; cases hx
    | some a' =>
    cases hb : cCode Pr func.ntmps (resT func.results.toList) b with
    | none => rw [ha, hb] at hx; cases hx
    | some b' =>
    rw [ha, hb] at hx; cases hx
    exact goTo s hf t (todo2' := .code a :: .code b :: k') (.cons ha (.cons hb hi)) (lit (by simp [stepG, stepG.exec]))
  | cond cd a b =>
    simp only [cCode] at hx
    cases hc : cOpd Pr cd with
    | none => rw [hc] at hx; cases hx
    | some cd' =>
    cases ha : cCode Pr func.ntmps (resT func.results.toList) a with
    | none => rw [hc, ha] at hx; cases hx
    | some a' =>
    cases hb : cCode Pr func.ntmps (resT func.results.toList) b with
    | none => rw [hc, ha, hb] at hx; cases hx
    | some b' =>
    rw [hc, ha, hb] at hx; cases hx
    have hv : V Pr ρ (opd tm cd') ((act fr).eval cd) := (OP.of (a := act fr) s.gl cd fun t' _ => t.2 t') cd' hc
    simp only [codeA]
    generalize hg : opd tm cd' = av at hv
    generalize hv2 : (act fr).eval cd = v2 at hv
    cases hv with
    | bool bb =>
      refine goTo s hf t (todo2' := .code (if bb then a else b) :: k') (.cons (by cases bb <;> first | exact ha | exact hb) hi) (lit ?_)
      have hev : Frame.eval { fr with mode := .run, todo := .code (.cond cd a b) :: k' } cd = .bool bb := by rw [← hv2]; cases cd <;> rfl
      simp [stepG, stepG.exec, hev]
    | _ => trivial
  | block id c =>
    simp only [cCode, Option.map_eq_some_iff] at hx
    obtain ⟨c', hc, rfl⟩ := hx
    exact goTo s hf t (todo2' := .code c :: .inBlock id :: k') (.cons hc (.cons rfl hi)) (lit (by simp [stepG, stepG.exec]))
  | loop c =>
    simp only [cCode, Option.map_eq_some_iff] at hx
    obtain ⟨c', hc, rfl⟩ := hx
    exact goTo s hf t (todo2' := .code c :: .inLoop c :: k') (.cons hc (.cons hc hi)) (lit (by simp [stepG, stepG.exec]))
  | scope c =>
    simp only [cCode, Option.map_eq_some_iff] at hx
    obtain ⟨c', hc, rfl⟩ := hx
    exact goTo s hf t (todo2' := .code c :: .inScope c :: k') (.cons hc (.cons hc hi)) (lit (by simp [stepG, stepG.exec]))
  | rangeFunc f ps a b =>
    simp only [cCode] at hx
    cases hc : cOpd Pr f with
    | none => rw [hc] at hx; cases hx
    | some fo =>
    cases ha : cCode Pr func.ntmps (resT func.results.toList) a with
    | none => rw [hc, ha] at hx; cases hx
    | some a' =>
    cases hb : cCode Pr func.ntmps (resT func.results.toList) b with
    | none => rw [hc, ha, hb] at hx; cases hx
    | some b' =>
    rw [hc, ha, hb] at hx
    simp only at hx
    split at hx
    · rename_i hall
      cases hx
      exact rfA_sim ok s hm htd hf t hi hc ha hb rfl (fun t' ht' => by
        have := List.all_eq_true.1 hall t' ht'
        exact Nat.le_of_ble_eq_true this)
    · cases hx
  | exit id =>
    cases hx
    simp only [codeA]
    have he := exitA_sound (Pr := Pr) (ρ := ρ) id hi
    cases hx : exitA id k with
    | some k2 =>
      rw [hx] at he
      obtain ⟨k2', g1, g2⟩ := he
      exact goTo s hf t (todo2' := k2') g2 (lit (by simp [stepG, stepG.exec, g1]))
    | none =>
      rw [hx] at he
      refine leaveA_sim s hm (j := .exit id) (jc := some (.exit id)) rfl (fun _ hj => by rcases hj with hj | hj <;> cases hj) (fun l c cs v w' hr hk hcs hrun => ?_)
      rw [hcs]
      have := stepR_round_exit (P := Pr) (b := fr) (a := act fr) (c := c) (cs := cs) (w := w) hr hk he hrun
      have e1 : fr.atR (act fr) (.code (.exit id) :: k') = fr := atR_self hmode htd
      rw [e1] at this
      exact this
  | ret =>
    cases hx
    have e1 : fr.atR (act fr) (.code .ret :: k') = fr := atR_self hmode htd
    refine leaveA_sim s hm (j := .ret) (jc := some .ret) rfl (fun hr _ => ?_) (fun l c cs v w' hr hk hcs hrun => ?_)
    · have := stepR_ret (P := Pr) (b := fr) (a := act fr) (k := k') (cs := css ++ tail) (w := w) hr
      rw [e1] at this
      exact this
    · rw [hcs]
      have := stepR_round_ret (P := Pr) (b := fr) (a := act fr) (k := k') (c := c) (cs := cs) (w := w) hr hk hrun
      rw [e1] at this
      exact this
  | label l => cases hx; exact goTo s hf t hi (lit (by simp [stepG, stepG.exec]))
  | goto l =>
    cases hx
    simp only [codeA]
    have he := gotoA_sound (Pr := Pr) (ρ := ρ) l hi
    cases hx : gotoA l k with
    | some k2 =>
      rw [hx] at he
      obtain ⟨k2', g1, g2⟩ := he
      exact goTo s hf t (todo2' := k2') g2 (lit (by simp [stepG, stepG.exec, g1]))
    | none =>
      rw [hx] at he
      refine leaveA_sim s hm (j := .goto l) (jc := some (.goto l)) rfl (fun _ hj => by rcases hj with hj | hj <;> cases hj) (fun l' c cs v w' hr hk hcs hrun => ?_)
      rw [hcs]
      have := stepR_round_goto (P := Pr) (b := fr) (a := act fr) (c := c) (cs := cs) (w := w) hr hk he hrun
      have e1 : fr.atR (act fr) (.code (.goto l) :: k') = fr := atR_self hmode htd
      rw [e1] at this
      exact this
  | refuse why => cases hx; trivial

end
end Go.Proofs.YtlklnffmhclioaaGreatDoor.Ev

namespace Go.Proofs.YtlklnffmhclioaaGreatDoor.Ev
open Go.RowKit

section
variable {Pr : Program} {B : Nat} {w0 w : World} {tail : List Frame} {ρ : En} {h : AH} {E : Env}

theorem step_endRange {fr : Frame} (hm : fr.mode = .run) {l : Nat} {k : List Item} (ht : fr.todo = .endRangeFunc l :: k) {j : Option Code} {w' : World} (hr : (Instr.endLoop l).run Pr w = .ok j w') (cs : List Frame) :
    step Pr (lone fr cs w) = .next (lone { fr with todo := (j.map Item.code).toList ++ k } cs w') := by
  obtain ⟨fn, tmps, todo, defers, mode, kind, ro⟩ := fr
  simp only at hm ht
  subst hm ht
  exact step_lone_go (by simp [stepG, stepG.exec, Sem.runT_eq, hr])

theorem runTodo_sim (ok : EnvOk Pr E) {lo : Nat} {tm : T AV} {todo : List AItem} {mt : AMeta} {cs : List AFr} {fr : Frame} {css : List Frame} (s : St Pr B w0 tail tm todo mt cs h fr css w ρ lo) (hm : mt.md = .run) :
    ResR Pr B w0 tail (lone fr (css ++ tail) w) (runTodo E tm todo mt cs h) := by
  have hmode := s.top.run hm
  obtain ⟨func, hf, htop, hres⟩ := s.top.st
  cases htop hm with
  | drawn e1 e2 i sc c p d nl =>
    rename_i l k ops is k' gis cl an pl A dn op gd pth
    simp only at e1 d
    subst e1
    have hD : DSt Pr B w0 mt cs k h tm func ops gis cl an A dn op gd pth is k' fr css w ρ lo := ⟨⟨s.top.fn, hf, s.top.df, hmode, s.top.kd, s.top.ro⟩, e2, i, sc, d, s.rest, s.wr, s.gl, s.hlo⟩
    have := draw_sim (tail := tail) hm _ c p hD
    show ResR _ _ _ _ _ (match region tm h l with
      | .fin tm h => .next tm k mt cs h
      | .stop tm h rest r => stopA E tm (.act rest :: k) mt cs h r)
    generalize region tm h l = RR at this ⊢
    cases RR with
    | fin tm' h' =>
      obtain ⟨fr', w', ρ', g1, lo', g2⟩ := this
      exact ⟨fr', css, w', ρ', g1, lo', g2⟩
    | stop tm' h' rest r =>
      rcases this with ⟨n, rfl⟩ | ⟨fr', w', ρ', g1, lo', g2⟩
      · exact trivial
      · exact ResR.of_steps g1 (stopA_sim ok hm g2)
  | acting e1 => simp only at e1; subst e1; exact Res1.up trivial
  | plain t i =>
    have hss := s
    generalize htd : fr.todo = todo' at i
    cases i with
    | nil =>
      have e1 : fr.atR (act fr) [] = fr := atR_self hmode htd
      refine Res1.up (leaveA_sim s hm (j := .none) (jc := none) rfl (fun hr _ => ?_) (fun l c cs v w' hr hk hcs hrun => ?_))
      · have := stepR_end (P := Pr) (b := fr) (a := act fr) (cs := css ++ tail) (w := w) hr
        rw [e1] at this; exact this
      · rw [hcs]
        have := stepR_round_end (P := Pr) (b := fr) (a := act fr) (c := c) (cs := cs) (w := w) hr hk hrun
        rw [e1] at this; exact this
    | cons hx hi =>
      rename_i x y k k'
      have lit : ∀ {todo2 : List Item}, (stepG Pr true { frame := { fr with mode := .run, todo := y :: k' }, callers := css ++ tail, status := .running, dying := none } w).bare = .go { frame := { fr with mode := .run, todo := todo2 }, callers := css ++ tail, status := .running, dying := none } w →
          step Pr (lone fr (css ++ tail) w) = .next (lone { fr with todo := todo2 } (css ++ tail) w) := by
        intro todo2 hs
        have e1 : { fr with mode := .run, todo := y :: k' } = fr := by
          obtain ⟨fn, tmps, todo, defers, mode, kind, ro⟩ := fr; simp only at hmode htd; subst hmode htd; rfl
        have e2 : { fr with mode := .run, todo := todo2 } = { fr with todo := todo2 } := by
          obtain ⟨fn, tmps, todo, defers, mode, kind, ro⟩ := fr; simp only at hmode htd; subst hmode; rfl
        rw [e1, e2] at hs
        exact step_lone_go hs
      cases x with
      | code c => exact Res1.up (codeA_sim ok s hm)
      | inBlock id =>
        cases y <;> first | exact hx.elim | skip
        exact Res1.up (goTo s hf t hi (lit (by simp [stepG, stepG.exec])))
      | inScope c =>
        cases y <;> first | exact hx.elim | skip
        exact Res1.up (goTo s hf t hi (lit (by simp [stepG, stepG.exec])))
      | inLoop c =>
        cases y <;> first | exact hx.elim | skip
        rename_i C
        exact Res1.up (goTo s hf t (todo2' := .code C :: .inLoop C :: k') (.cons hx (.cons hx hi)) (lit (by simp [stepG, stepG.exec])))
      | reg l =>
        cases y <;> first | exact hx.elim | skip
        rename_i ops is
        have := region_sim hm l s hf t htd hx hi
        show ResR _ _ _ _ _ (match region tm h l with
          | .fin tm h => .next tm k mt cs h
          | .stop tm h rest r => stopA E tm (.act rest :: k) mt cs h r)
        generalize region tm h l = RR at this ⊢
        cases RR with
        | fin tm' h' =>
          obtain ⟨fr', w', ρ', g1, lo', g2⟩ := this
          exact ⟨fr', css, w', ρ', g1, lo', g2⟩
        | stop tm' h' rest r =>
          rcases this with ⟨n, rfl⟩ | ⟨fr', w', ρ', g1, lo', g2⟩
          · exact trivial
          · exact ResR.of_steps g1 (stopA_sim ok hm g2)
      | act l => exact Res1.up trivial
      | rf p => exact Res1.up trivial
      | br =>
        cases y <;> first | exact hx.elim | skip
        refine Res1.up ?_
        show Res1 _ _ _ _ _ (match mt.ro with
          | some l => match h.get l with
            | .loop .ready p fn t ps a b d => .next tm k mt cs (h.set l (.loop .busy p fn t ps a b d))
            | _ => .fail 119
          | none => .fail 119)
        have hro := s.top.ro
        simp only at hro
        cases hro' : mt.ro with
        | none => trivial
        | some l =>
          rw [hro'] at hro
          cases hfr : fr.roundOf with
          | none => rw [hfr] at hro; exact hro.elim
          | some ln =>
            rw [hfr] at hro
            obtain ⟨e, e1, e2⟩ := hro
            subst e2
            simp only
            cases hg : h.get l with
            | loop st p fn t0 ps a b d =>
              cases st with
              | ready =>
                simp only
                have hO := s.wr.obj l e e1
                rw [hg] at hO
                obtain ⟨L, o1, o2⟩ := hO
                have hst : L.state = .ready := by
                  have := o2.st
                  cases hls : L.state <;> rw [hls] at this <;> first | rfl | exact this.elim
                obtain ⟨p1, p2, p3⟩ := s.wr.objPut e1 (by rw [hg]; rfl) o1 (by simp) (o' := .loop { L with state := .busy }) (ao := .loop .busy p fn t0 ps a b d) ⟨_, rfl, ⟨trivial, o2.pend, o2.fn, o2.tms, o2.ps, o2.df⟩⟩
                have hgo : (getObj e.a).run Pr w = .ok (.loop L) w := by simp [getObj, Sem.run, o1]
                have hb : (Instr.beginRound e.a).run Pr w = .ok () { w with heap := w.heap.setIfInBounds e.a (.loop { L with state := .busy }) } := by
                  simp only [Instr.beginRound, Instr.getLoop, Sem.run_bind, hgo, Result.andThen_ok, Sem.run_pure, p1, hst]
                have hs := stepR_beginRound (P := Pr) (b := fr) (a := act fr) (k := k') (cs := css ++ tail) (w := w) hfr hb
                have q1 : fr.atR (act fr) (.beginRound :: k') = fr := atR_self hmode htd
                have q2 : fr.atR (act fr) k' = { fr with todo := k' } := by
                  obtain ⟨fn, tmps, todo', defers, mode, kind, ro⟩ := fr
                  simp only at hmode; subst hmode; rfl
                rw [q1, q2] at hs
                exact ⟨_, css, _, ρ, .one hs, lo, ⟨(s.top.mono p3).to hf t hi, s.rest.mono p3 s.hlo, p2, s.gl, Nat.le_trans s.hlo p3.nxt⟩⟩
              | _ => trivial
            | _ => trivial
      | erf p =>
        cases y <;> first | exact hx.elim | skip
        rename_i ln
        obtain ⟨e, e1, e2⟩ := hx
        subst e2
        refine Res1.up ?_
        simp only [runTodo]
        cases hg : h.get p with
        | loop st pd fn t0 ps a b d =>
          simp only
          have hO := s.wr.obj p e e1
          rw [hg] at hO
          obtain ⟨L, o1, o2⟩ := hO
          have hgo : (getObj e.a).run Pr w = .ok (.loop L) w := by simp [getObj, Sem.run, o1]
          obtain ⟨p1, p2, p3⟩ := s.wr.objPut e1 (by rw [hg]; rfl) o1 (by simp) (o' := .loop { L with state := .exhausted }) (ao := .loop .exhausted pd fn t0 ps a b d) ⟨_, rfl, ⟨trivial, o2.pend, o2.fn, o2.tms, o2.ps, o2.df⟩⟩
          have fin : ∀ {todo2 : List AItem}, L.state ≠ .busy → All2 (ItR Pr ρ func.ntmps (resT func.results.toList)) todo2 ((L.pending.map Item.code).toList ++ k') →
              Res1 Pr B w0 tail (lone fr (css ++ tail) w) (.next tm todo2 mt cs (h.set p (.loop .exhausted pd fn t0 ps a b d))) := by
            intro todo2 hnb hi2
            have hb : (L.state == LoopState.busy) = false := by cases hls : L.state <;> first | rfl | exact absurd hls hnb
            have he : (Instr.endLoop e.a).run Pr w = .ok L.pending { w with heap := w.heap.setIfInBounds e.a (.loop { L with state := .exhausted }) } := by
              simp only [Instr.endLoop, Instr.getLoop, Sem.run_bind, hgo, Result.andThen_ok, hb, Bool.false_eq_true, if_false, Sem.run_pure, p1]
            have hs := step_endRange hmode htd he (css ++ tail)
            exact ⟨_, css, _, ρ, .one hs, lo, ⟨(s.top.mono p3).to hf t hi2, s.rest.mono p3 s.hlo, p2, s.gl, Nat.le_trans s.hlo p3.nxt⟩⟩
          have hlst := o2.st
          have hpend := o2.pend
          have nb : st ≠ .busy → L.state ≠ .busy := by
            intro hne hls; rw [hls] at hlst; cases st <;> first | exact hlst | exact hne rfl
          cases pd with
          | none =>
            have hp : L.pending = none := hpend
            cases st <;> first | trivial | exact fin (nb (by simp)) (by rw [hp]; exact hi)
          | ret =>
            have hp : L.pending = some .ret := hpend
            cases st <;> first | trivial | exact fin (nb (by simp)) (by rw [hp]; exact .cons rfl hi)
          | exit id =>
            have hp : L.pending = some (.exit id) := hpend
            cases st <;> first | trivial | exact fin (nb (by simp)) (by rw [hp]; exact .cons rfl hi)
          | goto l =>
            have hp : L.pending = some (.goto l) := hpend
            cases st <;> first | trivial | exact fin (nb (by simp)) (by rw [hp]; exact .cons rfl hi)
        | _ => trivial

end
end Go.Proofs.YtlklnffmhclioaaGreatDoor.Ev

namespace Go.Proofs.YtlklnffmhclioaaGreatDoor.Ev
open Go.RowKit

section
variable {Pr : Program} {B : Nat} {w0 w : World} {tail : List Frame} {ρ : En} {h : AH} {E : Env}

-- the results
theorem resCell (wr : WR Pr B w0 ρ h w) {t : TypeId} {n m : Nat} {b : Bool} (ht : tAgg Pr t = some b) (hn : tSz Pr t = some n) (hm : m = if b then n else 1000000) (hne : b = true → n ≠ 1000000) {x : AV} {v : Value} (hx : V Pr ρ x v) {y : AV}
    (hr : (bif Nat.beq m 1000000 then iLd1 h x else iLdn h m x) = .v y) : ∃ u, (do loadVar t (← asAddr v) : Sem Value).run Pr w = .ok u w ∧ V Pr ρ y u := by
  cases b with
  | false =>
    replace hm : m = 1000000 := by simpa using hm
    subst hm
    replace hr : iLd1 h x = .v y := hr
    cases hx with
    | ptr hp =>
      rename_i p off e
      unfold iLd1 at hr
      simp only at hr
      cases hc : h.get p with
      | cells own cs =>
        rw [hc] at hr
        simp only at hr
        cases hnn : nth cs off with
        | none => rw [hnn] at hr; cases hr
        | some a =>
          rw [hnn] at hr; cases hr
          rw [nth_eq] at hnn
          obtain ⟨u, g1, g2, _⟩ := wr.cell hp hc hnn
          exact ⟨u, by simp [asAddr, loadVar, run_isAgg ht, g1], g2⟩
      | _ => rw [hc] at hr; cases hr
    | _ => cases hr
  | true =>
    replace hm : m = n := by simpa using hm
    subst hm
    have hb : Nat.beq m 1000000 = false := by simp [nbeq, hne rfl]
    rw [hb] at hr
    simp only [cond_false] at hr
    cases hx with
    | ptr hp =>
      rename_i p off e
      unfold iLdn at hr
      simp only at hr
      cases hc : h.get p with
      | cells own cs =>
        rw [hc] at hr
        simp only at hr
        cases hs : slabL m (dropL off cs) with
        | none => rw [hs] at hr; cases hr
        | some l =>
          rw [hs] at hr; cases hr
          by_cases h0 : m ≠ 0 ∨ off ≤ cs.length
          · obtain ⟨g1, g2⟩ := slab_drop hs h0
            obtain ⟨vs, k1, k2, k3⟩ := run_loadVar_agg wr ht hn hp hc g2
            exact ⟨.agg vs, by simp [asAddr, k1], by rw [g1]; exact .agg k2 k3⟩
          · have h00 : m = 0 := by omega
            subst h00
            have hl : l = [] := by
              have := (slabL_spec 0 _ _ hs).1
              simpa using this
            subst hl
            refine ⟨.agg #[], ?_, .agg .nil (by simp)⟩
            have := run_loadCells (P := Pr) (w := w) (a := ad e off) (vs := []) (by simp)
            simp at this
            simp [asAddr, loadVar, run_isAgg ht, run_sizeOf hn, this]
      | _ => rw [hc] at hr; cases hr
    | _ => cases hr

def resOf (tmps : Array Value) : ResultVar → Sem Value
  | .tmp t => pure (tmps.getD t undef)
  | .cell a t => do loadVar t (← asAddr (tmps.getD a undef))

theorem resA_sound (wr : WR Pr B w0 ρ h w) {tm : T AV} {tmps : Array Value} : ∀ {rv : List ResultVar} {rs : List (P × Nat)} {l : List AV}, cRes Pr rv = some rs → (∀ t ∈ resT rv, V Pr ρ (T.get undefA (P.slot t) tm) (tmps.getD t undef)) → resA tm h rs = some l →
    ∃ vs, (rv.mapM (resOf tmps)).run Pr w = .ok vs w ∧ VL Pr ρ l vs
  | [], rs, l, hc, _, hr => by
    cases hc; cases hr
    exact ⟨[], by simp, .nil⟩
  | .tmp t :: rv, rs, l, hc, ht, hr => by
    simp only [cRes, Option.map_eq_some_iff] at hc
    obtain ⟨rs', hc, rfl⟩ := hc
    simp only [resA] at hr
    cases hrr : resA tm h rs' with
    | none => rw [hrr] at hr; cases hr
    | some l' =>
      rw [hrr] at hr; cases hr
      obtain ⟨vs, g1, g2⟩ := resA_sound wr hc (fun t' h' => ht t' (List.mem_cons_of_mem _ h')) hrr
      exact ⟨_ :: vs, by simp [resOf, g1], .cons (ht t (List.mem_cons_self ..)) g2⟩
  | .cell a t :: rv, rs, l, hc, ht, hr => by
    simp only [cRes] at hc
    obtain ⟨rs', hc', hc⟩ := bind_some hc
    obtain ⟨n, hn, hc⟩ := bind_some hc
    obtain ⟨b, hb, hc⟩ := bind_some hc
    have key : ∀ m, (b = true → n ≠ 1000000) → m = (if b then n else 1000000) → rs = (P.slot a, m + 1) :: rs' → ∃ vs, ((ResultVar.cell a t :: rv).mapM (resOf tmps)).run Pr w = .ok vs w ∧ VL Pr ρ l vs := by
      intro m hne hm hrs
      subst hrs
      simp only [resA] at hr
      generalize hq : (bif Nat.beq m 1000000 then iLd1 h (T.get undefA (P.slot a) tm) else iLdn h m (T.get undefA (P.slot a) tm)) = q at hr
      cases q with
      | v x =>
        cases hrr : resA tm h rs' with
        | none => rw [hrr] at hr; cases hr
        | some l' =>
          rw [hrr] at hr; cases hr
          obtain ⟨vs, g1, g2⟩ := resA_sound wr hc' (fun t' h' => ht t' (List.mem_cons_of_mem _ h')) hrr
          obtain ⟨u, k1, k2⟩ := resCell wr hb hn hm hne (ht a (List.mem_cons_self ..)) hq
          exact ⟨u :: vs, by simp only [List.mapM_cons, resOf, Sem.run_bind, k1, Result.andThen_ok, g1, Sem.run_pure], .cons k2 g2⟩
      | _ => simp at hr
    cases b with
    | true =>
      simp only [if_true] at hc
      split at hc
      · cases hc
      · rename_i hne; cases hc; exact key n (fun _ => hne) rfl rfl
    | false =>
      simp only [Bool.false_eq_true, if_false] at hc
      cases hc
      exact key 1000000 (fun h => by cases h) rfl rfl

def tupA : List AV → AV
  | [x] => x
  | l => .tup l

theorem results_sound (wr : WR Pr B w0 ρ h w) {tm : T AV} {func : Func} {tmps : Array Value} {rs : List (P × Nat)} {l : List AV} (hc : cRes Pr func.results.toList = some rs) (ht : ∀ t ∈ resT func.results.toList, V Pr ρ (T.get undefA (P.slot t) tm) (tmps.getD t undef))
    (hr : resA tm h rs = some l) : ∃ v, (results func tmps).run Pr w = .ok v w ∧ V Pr ρ (tupA l) v := by
  obtain ⟨vs, g1, g2⟩ := resA_sound wr hc ht hr
  have hm : (func.results.mapM (resOf tmps)).run Pr w = .ok vs.toArray w := by
    rw [Array.mapM_eq_mapM_toList]
    simp [g1]
  have hres : results func tmps = (do let vs ← func.results.mapM (resOf tmps); pure (if h : vs.size = 1 then vs[0] else .tuple vs)) := by
    unfold results
    congr 1
  refine ⟨if h : vs.toArray.size = 1 then vs.toArray[0] else .tuple vs.toArray, by rw [hres]; simp only [Sem.run_bind, hm, Result.andThen_ok, Sem.run_pure], ?_⟩
  match l, vs, g2 with
  | [], [], .nil => exact .tup .nil
  | [x], [v], .cons hv .nil => simpa [tupA] using hv
  | x :: y :: l, v :: u :: vs, .cons hv (.cons hu hr) =>
    have : ¬ (v :: u :: vs).toArray.size = 1 := by simp
    rw [dif_neg this]
    exact .tup (.cons hv (.cons hu hr))

end
end Go.Proofs.YtlklnffmhclioaaGreatDoor.Ev

namespace Go.Proofs.YtlklnffmhclioaaGreatDoor.Ev
open Go.RowKit

section
variable {Pr : Program} {B : Nat} {w0 w : World} {tail : List Frame} {ρ : En} {h : AH} {E : Env}

theorem step_unwind_coll {fr : Frame} (hm : fr.mode ≠ .run) {b : Nat} {as : Array Value} {ds : List Deferred} (hd : fr.defers = { target := .collected b, args := as } :: ds) {calls : List Deferred} {w' : World} (hr : (Instr.takeDeferred b).run Pr w = .ok calls w') (cs : List Frame) :
    step Pr (lone fr cs w) = .next (lone { fr with defers := calls ++ ds } cs w') := by
  obtain ⟨fn, tmps, todo, defers, mode, kind, ro⟩ := fr
  simp only at hm hd
  subst hd
  cases mode with
  | run => exact absurd rfl hm
  | returning => exact step_lone_go (by simp [stepG, unwind, Sem.runT_eq, hr])
  | panicking ch => exact step_lone_go (by simp [stepG, unwind, Sem.runT_eq, hr])

theorem step_unwind_enter {fr : Frame} (hm : fr.mode ≠ .run) {fn' : Fn} {cs' xs : Array Value} {ds : List Deferred} (hd : fr.defers = { target := .fn fn' cs', args := xs } :: ds) {f : FuncId} {ys : Array Value} {w' : World}
    (hr : (invoke (.fn fn' cs') xs).run Pr w = .ok (.enter f ys) w') (cs : List Frame) :
    step Pr (lone fr cs w) = .next (lone (Frame.enter Pr f ys .deferred) ({ fr with defers := ds } :: cs) w') := by
  obtain ⟨fn, tmps, todo, defers, mode, kind, ro⟩ := fr
  simp only at hm hd
  subst hd
  cases mode with
  | run => exact absurd rfl hm
  | returning => exact step_lone_go (by simp [stepG, unwind, callDeferred, Sem.runT_eq, hr])
  | panicking ch => exact step_lone_go (by simp [stepG, unwind, callDeferred, Sem.runT_eq, hr])

def settleF (c : Frame) : Frame :=
  match c.mode with
  | .panicking ({ recovered := true, .. } :: older) =>
    match older.dropWhile (!·.goexit) with
    | [] => { c with mode := .returning }
    | rest => { c with mode := .panicking rest }
  | _ => c

theorem step_unwind_deferred {fr c : Frame} {cs : List Frame} (hm : fr.mode = .returning) (hd : fr.defers = []) (hk : fr.kind = .deferred) {func : Func} (hf : Pr.funcs[fr.fn]? = some func) {v : Value} (hr : (results func fr.tmps).run Pr w = .ok v w) :
    step Pr (lone fr (c :: cs) w) = .next (lone (settleF c) cs w) := by
  refine step_lone_go ?_
  simp only [stepG, unwind, doReturn, hm, hd, hk, hf, hr, Sem.runT_eq]
  rfl

theorem dropGo : ∀ {l : List APan} {r : List PanicEntry}, All2 (PanR Pr ρ) l r → r.dropWhile (!·.goexit) = []
  | _, _, .nil => rfl
  | _, _, .cons ha hr => by rw [List.dropWhile_cons_of_pos (by simp [ha.2.2])]; exact dropGo hr

theorem settle_sim {lo hi : Nat} {c : AFr} {fc : Frame} (k : FrR Pr ρ h lo hi c fc) : FrR Pr ρ h lo hi ⟨c.tm, c.todo, ⟨c.mt.fn, c.mt.df, settleA c.mt.md, c.mt.dk, c.mt.ro⟩⟩ (settleF fc) := by
  obtain ⟨k1, ⟨func, g1, g2, g3⟩, k3, k4, k5, k6⟩ := k
  obtain ⟨fn, tmps, todo, defers, mode, kind, ro⟩ := fc
  simp only at *
  cases hmd : c.mt.md with
  | run =>
    rw [hmd] at k4
    cases mode <;> first | exact k4.elim | skip
    exact ⟨k1, ⟨func, g1, fun _ => g2 hmd, g3⟩, k3, trivial, k5, k6⟩
  | returning =>
    rw [hmd] at k4
    cases mode <;> first | exact k4.elim | skip
    exact ⟨k1, ⟨func, g1, fun hh => (by cases hh), g3⟩, k3, trivial, k5, k6⟩
  | panicking ch =>
    rw [hmd] at k4
    cases mode <;> first | exact k4.elim | skip
    rename_i ch'
    cases k4 with
    | nil => exact ⟨k1, ⟨func, g1, fun hh => (by cases hh), g3⟩, k3, .nil, k5, k6⟩
    | cons ha hr =>
      rename_i a e l r
      obtain ⟨av, arc⟩ := a
      obtain ⟨ev, er, eg⟩ := e
      have hdg := dropGo hr
      obtain ⟨pv, prc, pge⟩ := ha
      simp only at pv prc pge
      subst prc pge
      cases arc with
      | true =>
        have hs : settleF ⟨fn, tmps, todo, defers, .panicking (⟨ev, true, false⟩ :: r), kind, ro⟩ = ⟨fn, tmps, todo, defers, .returning, kind, ro⟩ := by
          simp only [settleF]; rw [hdg]
        rw [hs]
        exact ⟨k1, ⟨func, g1, fun hh => (by cases hh), g3⟩, k3, trivial, k5, k6⟩
      | false =>
        exact ⟨k1, ⟨func, g1, fun hh => (by cases hh), g3⟩, k3, .cons ⟨pv, rfl, rfl⟩ hr, k5, k6⟩

theorem unwindA_sim (ok : EnvOk Pr E) {tm : T AV} {todo : List AItem} {mt : AMeta} {cs : List AFr} {fr : Frame} {css : List Frame} {lo : Nat} (s : St Pr B w0 tail tm todo mt cs h fr css w ρ lo) (hm : mt.md ≠ .run) :
    Res1 Pr B w0 tail (lone fr (css ++ tail) w) (unwindA E tm mt cs h) := by
  obtain ⟨top, rst, wr, gl, hlo⟩ := s
  have hmode : fr.mode ≠ .run := by
    intro hh
    have := top.md
    rw [hh] at this
    simp only at this
    cases hq : mt.md with
    | run => exact hm hq
    | _ => rw [hq] at this; exact this.elim
  obtain ⟨k1, ⟨func, g1, g2, g3⟩, k3, k4, k5, k6⟩ := top
  simp only at k1 g2 g3 k3 k4 k5 k6
  unfold unwindA
  cases hdf : mt.df with
  | cons d ds =>
    rw [hdf] at k3
    generalize hfd : fr.defers = fds at k3
    cases k3 with
    | cons hd hds =>
    rename_i cd cds
    cases hd with
    | call hp hf h2 hx =>
      rename_i p first cap as fn f cs' xs
      simp only
      have hfr : FrR Pr ρ h lo h.nxt.toNat ⟨tm, [], ⟨mt.fn, ds, mt.md, mt.dk, mt.ro⟩⟩ { fr with defers := cds } := ⟨k1, ⟨func, g1, fun hh => absurd hh hm, g3⟩, hds, k4, k5, k6⟩
      rcases callfn_sim (tail := tail) (B := B) (w0 := w0) ok hp hf h2 hx hfr rst wr gl hlo true with g | ⟨ys, q1, q2⟩
      · exact Res1.fail g
      · exact Res1.of_steps (.one (step_unwind_enter hmode hfd q1 _)) q2
    | coll he =>
      rename_i p e
      simp only
      cases hg : h.get p with
      | deferred dd =>
        cases dd with
        | none => trivial
        | some l =>
          simp only
          have hO := wr.obj p e he
          rw [hg] at hO
          obtain ⟨dl, o1, o2⟩ := hO
          obtain ⟨p1, p2, p3⟩ := wr.objPut he (by rw [hg]; rfl) o1 (by simp) (o' := .deferred none) (ao := .deferred none) rfl
          have hgo : (getObj e.a).run Pr w = .ok (.deferred (some dl)) w := by simp [getObj, Sem.run, o1]
          have ht : (Instr.takeDeferred e.a).run Pr w = .ok dl { w with heap := w.heap.setIfInBounds e.a (.deferred none) } := by
            simp only [Instr.takeDeferred, Sem.run_bind, hgo, Result.andThen_ok, Sem.run_pure, p1]
          refine ⟨_, css, _, ρ, .one (step_unwind_coll hmode hfd ht _), lo, ⟨?_, rst.mono p3 hlo, p2, gl, Nat.le_trans hlo p3.nxt⟩⟩
          exact ⟨k1, ⟨func, g1, fun hh => absurd hh hm, g3⟩, o2.append hds, k4, k5, k6⟩
      | _ => trivial
  | nil =>
    rw [hdf] at k3
    generalize hfd : fr.defers = fds at k3
    cases k3
    simp only
    cases hmd : mt.md with
    | run => trivial
    | panicking ch =>
      simp only
      cases cs with
      | nil => trivial
      | cons c rest =>
        cases rst with
        | cons hl hc hrest =>
        rename_i lo2 fc fcs
        rw [hmd] at k4
        cases hfm : fr.mode with
        | run => rw [hfm] at k4; exact k4.elim
        | returning => rw [hfm] at k4; exact k4.elim
        | panicking ch' =>
          rw [hfm] at k4
          have hlv : fr.leaving Pr w (.panicked ch') := ⟨hfm, hfd, func, g1⟩
          refine ⟨fc.raise ch', fcs, w, ρ, .one (step_leave_panicked hlv), lo2, ⟨?_, hrest, wr, gl, Nat.le_trans hl hlo⟩⟩
          obtain ⟨c1, ⟨func2, c2, c3, c4⟩, c5, c6, c7, c8⟩ := hc.up hlo
          obtain ⟨fn, tmps, todo', defers, mode, kind, ro⟩ := fc
          simp only at *
          cases hcm : c.mt.md with
          | run =>
            rw [hcm] at c6
            cases mode <;> first | exact c6.elim | skip
            exact ⟨c1, ⟨func2, c2, fun hh => (by cases hh), c4⟩, c5, k4, c7, c8⟩
          | returning =>
            rw [hcm] at c6
            cases mode <;> first | exact c6.elim | skip
            exact ⟨c1, ⟨func2, c2, fun hh => (by cases hh), c4⟩, c5, k4, c7, c8⟩
          | panicking old =>
            rw [hcm] at c6
            cases mode <;> first | exact c6.elim | skip
            exact ⟨c1, ⟨func2, c2, fun hh => (by cases hh), c4⟩, c5, All2.append k4 c6, c7, c8⟩
    | returning =>
      simp only
      have hfm : fr.mode = .returning := by
        rw [hmd] at k4
        cases hq : fr.mode <;> rw [hq] at k4 <;> first | rfl | exact k4.elim
      cases ht : E.tab mt.fn with
      | none => trivial
      | some c =>
        simp only
        obtain ⟨f', func', h1, h2, h3⟩ := ok.tab _ _ ht
        rw [k1] at h1
        have := P.slot_inj h1; subst this
        rw [g1] at h2; cases h2
        obtain ⟨b, hb, hn, hc, hcr⟩ := cFn_spec h3
        have fin : ∀ {v : AV} {l : List AV}, resA tm h c.res = some l → v = tupA l → Res1 Pr B w0 tail (lone fr (css ++ tail) w) (retA mt cs v h) := by
          intro v l hr hv
          obtain ⟨u, q1, q2⟩ := results_sound wr hcr g3 hr
          subst hv
          unfold retA
          cases cs with
          | nil =>
            cases rst
            cases hdk : mt.dk with
            | true => trivial
            | false =>
              have hkn : fr.kind = .normal := by rw [k5, hdk]; rfl
              exact ⟨fr, w, ρ, u, .refl Pr _, k1, ⟨hfm, hfd, hkn, func, g1, q1⟩, q2, wr⟩
          | cons c2 rest =>
            cases rst with
            | cons hl2 hc2 hrest =>
            rename_i lo2 fc fcs
            cases hdk : mt.dk with
            | true =>
              have hkd : fr.kind = .deferred := by rw [k5, hdk]; rfl
              simp only [cond_true]
              exact ⟨settleF fc, fcs, w, ρ, .one (step_unwind_deferred hfm hfd hkd g1 q1), lo2, ⟨settle_sim (hc2.up hlo), hrest, wr, gl, Nat.le_trans hl2 hlo⟩⟩
            | false =>
              have hkn : fr.kind = .normal := by rw [k5, hdk]; rfl
              simp only [cond_false]
              cases hfin : finishA c2 (tupA l) with
              | none => trivial
              | some c3 =>
                have hl : fr.leaving Pr w (.returned u) := ⟨hfm, hfd, hkn, func, g1, q1⟩
                exact ⟨fc.finish u, fcs, w, ρ, .one (step_leave_returned hl), lo2, ⟨finish_sim (hc2.up hlo) q2 hfin, hrest, wr, gl, Nat.le_trans hl2 hlo⟩⟩
        cases hr : resA tm h c.res with
        | none => trivial
        | some l =>
          match l, hr with
          | [], hr => exact fin hr rfl
          | [v], hr => exact fin hr rfl
          | v :: u :: l, hr => exact fin hr rfl

end
end Go.Proofs.YtlklnffmhclioaaGreatDoor.Ev

namespace Go.Proofs.YtlklnffmhclioaaGreatDoor.Ev
open Go.RowKit

section
variable {Pr : Program} {B : Nat} {w0 w : World} {tail : List Frame} {ρ : En} {h : AH} {E : Env}

/-- ONE STEP OF THE INTERPRETER IS SOME STEPS OF THE MACHINE -/
theorem stepA_sim (ok : EnvOk Pr E) {tm : T AV} {todo : List AItem} {mt : AMeta} {cs : List AFr} {fr : Frame} {css : List Frame}
    {lo : Nat} (s : St Pr B w0 tail tm todo mt cs h fr css w ρ lo) : ResR Pr B w0 tail (lone fr (css ++ tail) w) (stepA E tm todo mt cs h) := by
  unfold stepA
  cases hm : mt.md with
  | run => exact runTodo_sim ok s hm
  | returning => exact Res1.up (unwindA_sim ok s (by rw [hm]; simp))
  | panicking ch => exact Res1.up (unwindA_sim ok s (by rw [hm]; simp))

/-- a heap of which less is known -/
def Less (h' h : AH) : Prop := h'.nxt = h.nxt ∧ ∀ p, h'.get p = .none ∨ h'.get p = h.get p

theorem WR.less {h' : AH} (hw : WR Pr B w0 ρ h w) (x : Less h' h) : WR Pr B w0 ρ h' w := by
  refine ⟨hw.below, hw.base, fun p e hp => ?_, hw.bnd, fun p e hp ho => ?_, fun p q e e' hpq hp hq ho hl => ?_, fun p hp => ?_, hw.q0⟩
  · rcases x.2 p with h1 | h1
    · rw [h1]; trivial
    · rw [h1]; exact hw.obj p e hp
  · rcases x.2 p with h1 | h1
    · rw [h1] at ho; cases ho
    · rw [h1] at ho; exact hw.own p e hp ho
  · have h1 : h'.get p = h.get p := (x.2 p).resolve_left fun h1 => by rw [h1] at ho; cases ho
    have h2 : h'.get q = h.get q := (x.2 q).resolve_left fun h1 => by rw [h1] at hl; cases hl
    rw [h1] at ho; rw [h2] at hl
    exact hw.sep p q e e' hpq hp hq ho hl
  · rw [x.1] at hp
    obtain ⟨g1, g2⟩ := hw.fresh p hp
    refine ⟨g1, ?_⟩
    rcases x.2 p with h1 | h1
    · exact h1
    · rw [h1]; exact g2

theorem St.less {h' : AH} {tm : T AV} {todo : List AItem} {mt : AMeta} {cs : List AFr} {fr : Frame} {css : List Frame} {lo : Nat} (s : St Pr B w0 tail tm todo mt cs h fr css w ρ lo) (x : Less h' h) : St Pr B w0 tail tm todo mt cs h' fr css w ρ lo :=
  have kp : ∀ {a b}, Kept a b ρ ρ h h' := fun p _ _ hp => ⟨hp, (x.2 p).symm⟩
  ⟨by rw [x.1]; exact s.top.gen (.refl ρ) kp (Nat.le_refl _), s.rest.gen (.refl ρ) kp, s.wr.less x, s.gl, by rw [x.1]; exact s.hlo⟩

/-- it comes to an end, whatever is drawn, and there it is so -/
inductive Ends (E : Env) (Q : P → AV → AH → Prop) : R → Prop where
  | done {p : P} {v : AV} {h : AH} (q : Q p v h) : Ends E Q (.done p v h)
  | next {tm : T AV} {todo : List AItem} {mt : AMeta} {cs : List AFr} {h : AH} (k : Ends E Q (stepA E tm todo mt cs h)) : Ends E Q (.next tm todo mt cs h)
  | many {l : List R} (k : ∀ r ∈ l, Ends E Q r) : Ends E Q (.many l)
  | drop {tm : T AV} {todo : List AItem} {mt : AMeta} {cs : List AFr} {h h' : AH} (x : Less h' h) (k : Ends E Q (.next tm todo mt cs h')) : Ends E Q (.next tm todo mt cs h)

theorem Ends.sound (ok : EnvOk Pr E) {Q : P → AV → AH → Prop} {r : R} (k : Ends E Q r) :
    ∀ {m : Machine}, ResR Pr B w0 tail m r → ∃ p v h, Q p v h ∧ Res1 Pr B w0 tail m (.done p v h) := by
  induction k with
  | done q => intro m hm; exact ⟨_, _, _, q, hm⟩
  | next k ih =>
    intro m hm
    obtain ⟨fr, css, w, ρ, g1, lo, g2⟩ := hm
    obtain ⟨p, v, h, q1, q2⟩ := ih (stepA_sim ok g2)
    exact ⟨p, v, h, q1, q2.of_steps g1⟩
  | many k ih =>
    intro m hm
    obtain ⟨r, g1, g2⟩ := hm
    exact ih r g1 g2.up
  | drop x k ih =>
    intro m hm
    obtain ⟨fr, css, w, ρ, g1, lo, g2⟩ := hm
    exact ih (m := m) ⟨fr, css, w, ρ, g1, lo, g2.less x⟩

/-- the same, to be reckoned -/
noncomputable def endsB (E : Env) (q : P → AV → AH → Bool) (n : Nat) : R → Bool :=
  Nat.rec (motive := fun _ => R → Bool) (fun _ => false)
    (fun _ ih r => R.casesOn (motive_1 := fun _ => Bool) r (fun tm todo mt cs h => ih (stepA E tm todo mt cs h)) (fun p v h => q p v h) (fun l => l.all ih) (fun _ => false)) n

theorem endsB_sound {q : P → AV → AH → Bool} : ∀ (n : Nat) {r : R}, endsB E q n r = true → Ends E (fun p v h => q p v h = true) r := by
  intro n
  induction n with
  | zero => intro r h; cases h
  | succ n ih =>
    intro r h
    cases r with
    | next tm todo mt cs h' => exact .next (ih h)
    | done p v h' => exact .done h
    | many l => exact .many fun r hr => ih (List.all_eq_true.1 h r hr)
    | fail w => cases h

/-- A CALL THAT THE INTERPRETER PLAYS TO ITS END -/
theorem calls_of_ends (ok : EnvOk Pr E) {Q : P → AV → AH → Prop} {f : FuncId} {args : List AV} {vs : Array Value}
    (k : Ends E Q (enterA E false (P.slot f) args [] h)) (hq : ∀ p v h', Q p v h' → p = P.slot f) (wr : WR Pr B w0 ρ h w) (gl : GL Pr ρ) (hv : VL Pr ρ args vs.toList) :
    Calls Pr f vs w fun e w' => ∃ v v' h' ρ', e = .returned v' ∧ Q (P.slot f) v h' ∧ V Pr ρ' v v' ∧ WR Pr B w0 ρ' h' w' := by
  intro cs
  have h0 := enterA_sim (tail := cs) (B := B) (w0 := w0) (cs := []) (css := []) (dk := false) (f := f) ok hv .nil wr gl (Nat.zero_le _)
  obtain ⟨p, v, h', q1, q2⟩ := k.sound ok h0.up
  have hp := hq p v h' q1
  subst hp
  obtain ⟨fr, w', ρ', v', g1, g2, g3, g4, g5⟩ := q2
  exact ⟨.returned v', w', fr, ⟨v, v', h', ρ', rfl, q1, g4, g5⟩, g1, (P.slot_inj g2).symm, g3⟩

end
end Go.Proofs.YtlklnffmhclioaaGreatDoor.Ev

