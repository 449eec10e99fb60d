/- The interpreter (kernel form) and the compiler of the program's code into its own. -/
import GoSem.Step
import Derived.Laws.Sem
namespace Go.Proofs.YtlklnffmhclioaaGreatDoor.Ev

inductive P where
  | z | a (p : P) | b (p : P) | c (p : P) | d (p : P)
  deriving DecidableEq, Inhabited

inductive T (α : Type) where
  | leaf | node (a b c d : T α) (v : α)
  deriving Inhabited

inductive Cap where
  | exact (n : Nat)
  | ghost (g sz : Nat)
  deriving Inhabited, DecidableEq

inductive AV where
  | bool (b : Bool)
  | int (k : IntKind) (n : Int)
  | str (s : List Nat)
  | ptr0 | ptr (b : P) (off : Nat)
  | sl0 | sl (b : P) (alt off len : Nat) (c : Cap)
  | map0 | map (b : P)
  | fn (f : P) (first cap : List AV)
  | yld (l : P)
  | fn0
  | iface (t : TypeId) (v : AV) | iface0
  | agg (l : List AV) | tup (l : List AV)
  deriving Inhabited

noncomputable def undefA : AV := .tup []

inductive Opd where
  | s (p : P)
  | c (v : AV)
  deriving Inhabited

/-- how two values are held against each other: cell by cell, if they are aggregates: 0 bools, 1 numbers, 2 strings -/
structure Sg where
  ag : Bool
  tg : List Nat
  deriving Inhabited

inductive Ins where
  | mv (x : Opd)
  | pick (c a b : Opd)
  | new (z : List AV)
  | box (x : Opd)
  | bld (z : List AV) (ps : List (Nat × Nat × Opd))
  | bsl (z : List AV) (n : Nat) (ps : List (Nat × Nat × Opd))
  | ld1 (a : Opd)
  | ldn (n : Nat) (a : Opd)
  | st1 (a x : Opd)
  | stn (n : Nat) (a x : Opd)
  | nck (x : Opd)
  | bin (op : BinOp) (x y : Opd)
  | nul (kd : Nat) (ne : Bool) (x y : Opd)
  | eqc (g : Sg) (ne : Bool) (x y : Opd)
  | not (x : Opd) | neg (x : Opd)
  | cvi (k : IntKind) (x : Opd)
  | cvs (x : Opd)
  | cvb (x : Opd)
  | mki (t : TypeId) (x : Opd)
  | mkf (f : P) (first cap : List Opd)
  | mkm
  | mkmr (x : Opd)
  | mks (z : List AV) (l c : Opd)
  | sls (sz : Nat) (x : Opd) (lo hi mx : Option Opd)
  | slt (x : Opd) (lo hi : Option Opd)
  | sla (n sz : Nat) (x : Opd) (lo hi mx : Option Opd)
  | fa (off : Nat) (x : Opd)
  | fld1 (off : Nat) (x : Opd)
  | fldn (off n : Nat) (x : Opd)
  | ia (sz : Nat) (x i : Opd)
  | iaa (len sz : Nat) (x i : Opd)
  | ixs (x i : Opd)
  | ixa (len sz : Nat) (agg : Bool) (x i : Opd)
  | lk (g : Sg) (z : AV) (ok : Bool) (m k : Opd)
  | mu (g : Sg) (m k v : Opd)
  | me (g : Sg) (z : AV) (m k : Opd)
  | es (m s v : Opd)
  | rg (str : Bool) (x : Opd)
  | nx (str : Bool) (it : Opd)
  | en (it : Opd)
  | ta (t : TypeId) (z : AV) (ok : Bool) (x : Opd)
  | ex (i : Nat) (x : Opd)
  | call (f : P) (args : List Opd)
  | callv (f : Opd) (args : List Opd)
  | lenC (n : Nat) (x : Opd)
  | lenS (x : Opd)
  | lenL (x : Opd)
  | lenM (x : Opd)
  | cap (x : Opd)
  | app (sz : Nat) (s x : Opd)
  | apz (sz : Nat) (z : List AV) (s x : Opd)
  | cpy (sz : Nat) (d s : Opd)
  | clr (z : List AV) (s : Opd)
  | mn (mx : Bool) (x : Opd) (r : List Opd)
  | del (g : Sg) (m k : Opd)
  | rcv
  | pan (x : Opd)
  | dfr (f : Opd) (args : List Opd)
  | chk (i : Ins) (d : P)
  deriving Inhabited

structure GI where
  g : Option (P × Bool)
  d : Option P
  ins : Ins
  deriving Inhabited

inductive CC where
  | skip
  | reg (l : List GI)
  | seq (a b : CC)
  | cond (c : Opd) (a b : CC)
  | block (id : Nat) (c : CC)
  | loop (c : CC)
  | rf (f : Opd) (params : List P) (assign body : CC)
  | exit (id : Nat)
  | ret
  | scope (c : CC)
  | label (l : Nat)
  | goto (l : Nat)
  | bad
  deriving Inhabited

structure CFn where
  body : CC
  res : List (P × Nat)        -- slot, and 0: the slot itself; n + 1: a variable behind it of n cells (1000000: one that is no aggregate)
  deriving Inhabited

inductive Jmp where
  | none | ret | exit (id : Nat) | goto (l : Nat)
  deriving Inhabited

structure ADef where
  tgt : AV
  args : List AV
  deriving Inhabited

structure AEnt where
  key : AV
  val : AV
  born : Nat
  deriving Inhabited

inductive LS where | ready | busy | done | exhausted
  deriving Inhabited

inductive AObj where
  | none
  | cells (own : Bool) (cs : List AV)
  | map (es : List AEnt) (clock : Nat)
  | mapIter (m : Option P) (since : Nat) (seen : List Nat) (stepped : Nat)
  | strIter (s : List Nat) (pos : Nat)
  | loop (state : LS) (pending : Jmp) (fn : P) (tm : T AV) (params : List P) (assign body : CC) (defers : P)
  | deferred (d : Option (List ADef))
  deriving Inhabited

structure AH where
  nxt : P
  t : T AObj
  deriving Inhabited

inductive AItem where
  | code (c : CC) | inBlock (id : Nat) | inLoop (c : CC) | inScope (c : CC)
  | reg (rest : List GI)
  | act (rest : List GI)          -- the first of rest is in the making
  | rf (l : P) | erf (l : P) | br
  deriving Inhabited

structure APan where
  v : AV
  rc : Bool
  deriving Inhabited

inductive AMode where
  | run | returning | panicking (chain : List APan)
  deriving Inhabited

/-- what of a frame changes seldom -/
structure AMeta where
  fn : P
  df : List ADef
  md : AMode
  dk : Bool            -- a deferred call
  ro : Option P
  deriving Inhabited

structure AFr where
  tm : T AV
  todo : List AItem
  mt : AMeta
  deriving Inhabited

inductive IR where
  | v (x : AV)
  | vh (x : AV) (h : AH)
  | call (f : P) (args : List AV)
  | callv (f : AV) (args : List AV)
  | defer (d : ADef)
  | recover
  | panic (v : AV)
  | br (l : List (AV × AH))
  | fail (why : Nat)
  deriving Inhabited

inductive R where
  | next (tm : T AV) (todo : List AItem) (mt : AMeta) (cs : List AFr) (h : AH)
  | done (f : P) (v : AV) (h : AH)
  | many (l : List R)
  | fail (why : Nat)
  deriving Inhabited

noncomputable def P.succ (p : P) : P := P.rec (motive := fun _ => P) (.a .z) (fun p _ => .b p) (fun p _ => .c p) (fun p _ => .d p) (fun _ ih => .a ih) p

noncomputable def T.get {α : Type} (e : α) (p : P) : T α → α :=
  P.rec (motive := fun _ => T α → α)
    (fun t => T.rec (motive := fun _ => α) e (fun _ _ _ _ v _ _ _ _ => v) t)
    (fun _ ih t => T.rec (motive := fun _ => α) e (fun a _ _ _ _ _ _ _ _ => ih a) t)
    (fun _ ih t => T.rec (motive := fun _ => α) e (fun _ b _ _ _ _ _ _ _ => ih b) t)
    (fun _ ih t => T.rec (motive := fun _ => α) e (fun _ _ c _ _ _ _ _ _ => ih c) t)
    (fun _ ih t => T.rec (motive := fun _ => α) e (fun _ _ _ d _ _ _ _ _ => ih d) t) p

noncomputable def T.put {α : Type} (e x : α) (p : P) : T α → T α :=
  P.rec (motive := fun _ => T α → T α)
    (fun t => T.rec (motive := fun _ => T α) (.node .leaf .leaf .leaf .leaf x) (fun a b c d _ _ _ _ _ => .node a b c d x) t)
    (fun _ ih t => T.rec (motive := fun _ => T α) (.node (ih .leaf) .leaf .leaf .leaf e) (fun a b c d v _ _ _ _ => .node (ih a) b c d v) t)
    (fun _ ih t => T.rec (motive := fun _ => T α) (.node .leaf (ih .leaf) .leaf .leaf e) (fun a b c d v _ _ _ _ => .node a (ih b) c d v) t)
    (fun _ ih t => T.rec (motive := fun _ => T α) (.node .leaf .leaf (ih .leaf) .leaf e) (fun a b c d v _ _ _ _ => .node a b (ih c) d v) t)
    (fun _ ih t => T.rec (motive := fun _ => T α) (.node .leaf .leaf .leaf (ih .leaf) e) (fun a b c d v _ _ _ _ => .node a b c (ih d) v) t) p

noncomputable def opd (tm : T AV) (x : Opd) : AV := Opd.rec (motive := fun _ => AV) (fun p => T.get undefA p tm) (fun v => v) x

noncomputable def opds (tm : T AV) (l : List Opd) : List AV := List.rec (motive := fun _ => List AV) [] (fun x _ ih => opd tm x :: ih) l

noncomputable def nth (l : List AV) : Nat → Option AV :=
  List.rec (motive := fun _ => Nat → Option AV) (fun _ => none) (fun a _ ih n => Nat.rec (motive := fun _ => Option AV) (some a) (fun m _ => ih m) n) l

noncomputable def dropL {α : Type} (n : Nat) : List α → List α :=
  Nat.rec (motive := fun _ => List α → List α) (fun l => l) (fun _ ih l => List.rec (motive := fun _ => List α) [] (fun _ l _ => ih l) l) n

noncomputable def slabL (n : Nat) : List AV → Option (List AV) :=
  Nat.rec (motive := fun _ => List AV → Option (List AV)) (fun _ => some []) (fun _ ih l => List.rec (motive := fun _ => Option (List AV)) none (fun a l _ => Option.rec (motive := fun _ => Option (List AV)) none (fun r => some (a :: r)) (ih l)) l) n

noncomputable def over (xs : List AV) : List AV → Option (List AV) :=
  List.rec (motive := fun _ => List AV → Option (List AV)) (fun l => some l) (fun x _ ih l => List.rec (motive := fun _ => Option (List AV)) none (fun _ l _ => Option.rec (motive := fun _ => Option (List AV)) none (fun r => some (x :: r)) (ih l)) l) xs

noncomputable def setAt (n : Nat) (xs : List AV) : List AV → Option (List AV) :=
  Nat.rec (motive := fun _ => List AV → Option (List AV)) (fun l => over xs l) (fun _ ih l => List.rec (motive := fun _ => Option (List AV)) none (fun y l _ => Option.rec (motive := fun _ => Option (List AV)) none (fun r => some (y :: r)) (ih l)) l) n
noncomputable def P.ofAux : Nat → Nat → P
  | 0, _ => .z
  | k + 1, n => bif Nat.beq n 0 then .z else
    match Nat.mod (n - 1) 4 with
    | 0 => .a (P.ofAux k (Nat.div (n - 1) 4))
    | 1 => .b (P.ofAux k (Nat.div (n - 1) 4))
    | 2 => .c (P.ofAux k (Nat.div (n - 1) 4))
    | _ => .d (P.ofAux k (Nat.div (n - 1) 4))
noncomputable def P.slot (n : Nat) : P := P.ofAux n n
noncomputable def P.toNat : P → Nat
  | .z => 0
  | .a p => 4 * P.toNat p + 1
  | .b p => 4 * P.toNat p + 2
  | .c p => 4 * P.toNat p + 3
  | .d p => 4 * P.toNat p + 4

noncomputable def ltI : Int → Int → Bool
  | .ofNat a, .ofNat b => Nat.blt a b
  | .ofNat _, .negSucc _ => false
  | .negSucc _, .ofNat _ => true
  | .negSucc a, .negSucc b => Nat.blt b a
noncomputable def eqI : Int → Int → Bool
  | .ofNat a, .ofNat b => Nat.beq a b
  | .negSucc a, .negSucc b => Nat.beq a b
  | _, _ => false
noncomputable def leI : Int → Int → Bool
  | .ofNat a, .ofNat b => Nat.ble a b
  | .ofNat _, .negSucc _ => false
  | .negSucc _, .ofNat _ => true
  | .negSucc a, .negSucc b => Nat.ble b a
noncomputable def subN (a b : Nat) : Int := bif Nat.ble b a then .ofNat (Nat.sub a b) else .negSucc (Nat.sub (Nat.sub b a) 1)
noncomputable def addI : Int → Int → Int
  | .ofNat a, .ofNat b => .ofNat (Nat.add a b)
  | .ofNat a, .negSucc b => subN a (Nat.succ b)
  | .negSucc a, .ofNat b => subN b (Nat.succ a)
  | .negSucc a, .negSucc b => .negSucc (Nat.succ (Nat.add a b))
noncomputable def negI : Int → Int
  | .ofNat 0 => .ofNat 0
  | .ofNat (n + 1) => .negSucc n
  | .negSucc n => .ofNat (Nat.succ n)
noncomputable def subI (a b : Int) : Int := addI a (negI b)

noncomputable def eqL : List Nat → List Nat → Bool
  | [], [] => true
  | a :: x, b :: y => bif Nat.beq a b then eqL x y else false
  | _, _ => false
noncomputable def ltL : List Nat → List Nat → Bool
  | _, [] => false
  | [], _ :: _ => true
  | a :: x, b :: y => bif Nat.blt a b then true else bif Nat.beq a b then ltL x y else false

noncomputable def cellsA : AV → List AV
  | .agg l => l
  | .tup _ => []
  | v => [v]

/-- the wrap of a kind, where the value is near -/
noncomputable def wrapA : IntKind → Int → AV
  | .i64, .ofNat n => bif Nat.ble n 9223372036854775807 then .int .i64 (.ofNat n) else .int .i64 (IntKind.wrap .i64 (.ofNat n))
  | .i64, .negSucc n => bif Nat.ble n 9223372036854775807 then .int .i64 (.negSucc n) else .int .i64 (IntKind.wrap .i64 (.negSucc n))
  | .u8, .ofNat n => .int .u8 (.ofNat (Nat.mod n 256))
  | k, n => .int k (IntKind.wrap k n)

noncomputable def binI (op : BinOp) (k : IntKind) (a b : Int) : IR :=
  match op with
  | .add => .v (wrapA k (addI a b))
  | .sub => .v (wrapA k (subI a b))
  | .eql => .v (.bool (eqI a b))
  | .neq => .v (.bool (!eqI a b))
  | .lss => .v (.bool (ltI a b))
  | .leq => .v (.bool (leI a b))
  | .gtr => .v (.bool (ltI b a))
  | .geq => .v (.bool (leI b a))
  | .mul => .v (wrapA k (Int.mul a b))
  | .quo => bif eqI b (.ofNat 0) then .fail 1 else .v (wrapA k (Int.tdiv a b))
  | .rem => bif eqI b (.ofNat 0) then .fail 1 else .v (.int k (Int.tmod a b))
  | .shl => bif ltI b (.ofNat 0) then .fail 1 else .v (.int k (k.wrap (a * 2 ^ (min b.toNat k.bits))))
  | .shr => bif ltI b (.ofNat 0) then .fail 1 else .v (.int k (a.fdiv (2 ^ (min b.toNat k.bits))))
  | .and => .v (.int k (k.wrap (BitVec.ofInt k.bits a &&& BitVec.ofInt k.bits b).toNat))
  | .or => .v (.int k (k.wrap (BitVec.ofInt k.bits a ||| BitVec.ofInt k.bits b).toNat))
  | .xor => .v (.int k (k.wrap (BitVec.ofInt k.bits a ^^^ BitVec.ofInt k.bits b).toNat))
  | .andNot => .v (.int k (k.wrap (BitVec.ofInt k.bits a &&& ~~~(BitVec.ofInt k.bits b)).toNat))

noncomputable def binS (op : BinOp) (a b : List Nat) : IR :=
  match op with
  | .add => bif Nat.ble (Nat.add (List.length a) (List.length b)) 9223372036854775807 then .v (.str (a ++ b)) else .fail 2
  | .eql => .v (.bool (eqL a b))
  | .neq => .v (.bool (!eqL a b))
  | .lss => .v (.bool (ltL a b))
  | .leq => .v (.bool (!ltL b a))
  | .gtr => .v (.bool (ltL b a))
  | .geq => .v (.bool (!ltL a b))
  | _ => .fail 2

noncomputable def kN : IntKind → Nat
  | .i8 => 0 | .i16 => 1 | .i32 => 2 | .i64 => 3 | .u8 => 4 | .u16 => 5 | .u32 => 6 | .u64 => 7
noncomputable def kEq (a b : IntKind) : Bool := Nat.beq (kN a) (kN b)
noncomputable def isShift : BinOp → Bool
  | .shl | .shr => true
  | _ => false

noncomputable def iBin (op : BinOp) : AV → AV → IR
  | .int k a, .int k' b => bif kEq k k' then binI op k a b else bif isShift op then binI op k a b else .fail 3
  | .str a, .str b => binS op a b
  | _, _ => .fail 3

/-- equal by sight: one cell each -/
noncomputable def eq1 (k : Nat) : AV → AV → Option Bool
  | .int j a, .int j' b => bif Nat.beq k 1 then (bif kEq j j' then some (eqI a b) else none) else none
  | .bool a, .bool b => bif Nat.beq k 0 then some (bif a then b else !b) else none
  | .str a, .str b => bif Nat.beq k 2 then some (eqL a b) else none
  | _, _ => none

noncomputable def eqCs : List Nat → List AV → List AV → Option Bool
  | [], [], [] => some true
  | k :: g, a :: x, b :: y => match eq1 k a b with
    | some true => eqCs g x y
    | some false => some false
    | none => none
  | _, _, _ => none

noncomputable def eqA (g : Sg) (a b : AV) : Option Bool :=
  bif g.ag then (match a, b with
    | .agg x, .agg y => eqCs g.tg x y
    | _, _ => none)
  else (match g.tg with
    | [k] => eq1 k a b
    | _ => none)

noncomputable def isNil (kd : Nat) : AV → Option Bool
  | .ptr0 => bif Nat.beq kd 0 then some true else none
  | .ptr _ _ => bif Nat.beq kd 0 then some false else none
  | .sl0 => bif Nat.beq kd 1 then some true else none
  | .sl .. => bif Nat.beq kd 1 then some false else none
  | .map0 => bif Nat.beq kd 2 then some true else none
  | .map _ => bif Nat.beq kd 2 then some false else none
  | .fn0 => bif Nat.beq kd 3 then some true else none
  | .fn .. => bif Nat.beq kd 3 then some false else none
  | .iface0 => bif Nat.beq kd 4 then some true else none
  | .iface _ _ => bif Nat.beq kd 4 then some false else none
  | _ => none

noncomputable def iNul (kd : Nat) (ne : Bool) (x y : AV) : IR :=
  match isNil kd x, isNil kd y with
  | some true, some b => .v (.bool (bif ne then !b else b))
  | some b, some true => .v (.bool (bif ne then !b else b))
  | _, _ => .fail 4

noncomputable def iEqc (g : Sg) (ne : Bool) (x y : AV) : IR :=
  match eqA g x y with
  | some b => .v (.bool (bif ne then !b else b))
  | none => .fail 5

noncomputable def AH.new (h : AH) (o : AObj) : AH := ⟨h.nxt.succ, T.put .none o h.nxt h.t⟩
noncomputable def AH.get (h : AH) (b : P) : AObj := T.get .none b h.t
noncomputable def AH.set (h : AH) (b : P) (o : AObj) : AH := ⟨h.nxt, T.put .none o b h.t⟩

noncomputable def iLd1 (h : AH) : AV → IR
  | .ptr b off => match h.get b with
    | .cells _ cs => match nth cs off with | some v => .v v | none => .fail 6
    | _ => .fail 7
  | _ => .fail 8

noncomputable def iLdn (h : AH) (n : Nat) : AV → IR
  | .ptr b off => match h.get b with
    | .cells _ cs => match slabL n (dropL off cs) with | some l => .v (.agg l) | none => .fail 6
    | _ => .fail 7
  | _ => .fail 8

noncomputable def storeA (h : AH) (b : P) (off : Nat) (vs : List AV) : Option AH :=
  match h.get b with
  | .cells true cs => match setAt off vs cs with | some cs => some (h.set b (.cells true cs)) | none => none
  | _ => none

noncomputable def iSt1 (h : AH) (a : AV) (x : AV) : IR :=
  match a with
  | .ptr b off => match x with
    | .agg _ => .fail 9
    | .tup _ => .fail 9
    | x => match storeA h b off [x] with | some h => .vh undefA h | none => .fail 9
  | _ => .fail 10

noncomputable def iStn (h : AH) (n : Nat) (a : AV) (x : AV) : IR :=
  match a, x with
  | .ptr b off, .agg l => bif Nat.beq (List.length l) n then (match storeA h b off l with | some h => .vh undefA h | none => .fail 9) else .fail 9
  | _, _ => .fail 10

noncomputable def cellsO : AV → Option (List AV)
  | .agg l => some l
  | .tup _ => none
  | v => some [v]

noncomputable def fillL (tm : T AV) : List (Nat × Nat × Opd) → List AV → Option (List AV)
  | [], cs => some cs
  | (off, n, x) :: r, cs =>
    match cellsO (opd tm x) with
    | some l => bif Nat.beq (List.length l) n then (match setAt off l cs with | some cs => fillL tm r cs | none => none) else none
    | none => none

noncomputable def iBld (tm : T AV) (z : List AV) (ps : List (Nat × Nat × Opd)) : IR :=
  match fillL tm ps z with | some l => .v (.agg l) | none => .fail 11
noncomputable def iBsl (tm : T AV) (h : AH) (z : List AV) (n : Nat) (ps : List (Nat × Nat × Opd)) : IR :=
  match fillL tm ps z with
  | some l => .vh (.sl h.nxt 0 0 n (.exact n)) (h.new (.cells true l))
  | none => .fail 11

noncomputable def natOf : AV → Option Nat
  | .int _ (.ofNat n) => some n
  | _ => none
noncomputable def optN (tm : T AV) (d : Nat) : Option Opd → Option Nat
  | none => some d
  | some x => natOf (opd tm x)

noncomputable def repl (z : List AV) : Nat → List AV
  | 0 => []
  | n + 1 => z ++ repl z n

noncomputable def cut3 (b : P) (off _len c sz : Nat) (l hh m : Nat) : IR :=
  bif Nat.ble m c && Nat.ble hh m && Nat.ble l hh then
    .v (bif Nat.beq m l then .sl b off off (Nat.sub hh l) (.exact 0) else .sl b (off + l * sz) (off + l * sz) (Nat.sub hh l) (.exact (Nat.sub m l)))
  else .fail 12

noncomputable def iSls (tm : T AV) (sz : Nat) (x : AV) (lo hi mx : Option Opd) : IR :=
  match x with
  | .sl0 => match optN tm 0 lo, optN tm 0 hi, optN tm 0 mx with
    | some 0, some 0, some 0 => .v .sl0
    | _, _, _ => .fail 12
  | .sl b _ off len (.exact c) => match optN tm 0 lo, optN tm len hi, optN tm c mx with
    | some l, some hh, some m => cut3 b off len c sz l hh m
    | _, _, _ => .fail 12
  | .sl b alt off len (.ghost g gs) => match optN tm 0 lo, optN tm len hi, mx with
    | some l, some hh, none =>
      bif Nat.ble hh len && Nat.ble l hh && Nat.beq gs sz then
        .v (bif Nat.beq l 0 then .sl b alt off hh (.ghost g gs) else .sl b off (off + l * sz) (Nat.sub hh l) (.ghost (g + l) gs))
      else .fail 12
    | some l, some hh, some mx => match natOf (opd tm mx) with
      | some m => bif Nat.beq len 0 then .fail 12 else cut3 b off len len sz l hh m
      | none => .fail 12
    | _, _, _ => .fail 12
  | _ => .fail 12

noncomputable def iSlt (tm : T AV) (x : AV) (lo hi : Option Opd) : IR :=
  match x with
  | .str s => match optN tm 0 lo, optN tm (List.length s) hi with
    | some l, some hh => bif Nat.ble l hh && Nat.ble hh (List.length s) then .v (.str ((dropL l s).take (Nat.sub hh l))) else .fail 13
    | _, _ => .fail 13
  | _ => .fail 13

noncomputable def iSla (tm : T AV) (n sz : Nat) (x : AV) (lo hi mx : Option Opd) : IR :=
  match x with
  | .ptr b off => match optN tm 0 lo, optN tm n hi, optN tm n mx with
    | some l, some hh, some m => cut3 b off n n sz l hh m
    | _, _, _ => .fail 14
  | _ => .fail 14

noncomputable def iIa (sz : Nat) (x i : AV) : IR :=
  match x, i with
  | .sl b _ off len _, .int _ (.ofNat i) => bif Nat.blt i len then .v (.ptr b (Nat.add off (Nat.mul i sz))) else .fail 15
  | _, _ => .fail 15
noncomputable def iIaa (len sz : Nat) (x i : AV) : IR :=
  match x, i with
  | .ptr b off, .int _ (.ofNat i) => bif Nat.blt i len then .v (.ptr b (Nat.add off (Nat.mul i sz))) else .fail 15
  | _, _ => .fail 15

noncomputable def nthN : List Nat → Nat → Option Nat
  | [], _ => none
  | a :: _, 0 => some a
  | _ :: l, n + 1 => nthN l n

noncomputable def iIxs (x i : AV) : IR :=
  match x, i with
  | .str s, .int _ (.ofNat i) => match nthN s i with | some c => .v (.int .u8 (.ofNat c)) | none => .fail 16
  | _, _ => .fail 16
noncomputable def partA (agg : Bool) (off n : Nat) (cs : List AV) : IR :=
  bif agg then (match slabL n (dropL off cs) with | some l => .v (.agg l) | none => .fail 17)
  else (match nth cs off with | some v => .v v | none => .fail 17)
noncomputable def iIxa (len sz : Nat) (agg : Bool) (x i : AV) : IR :=
  match x, i with
  | .agg cs, .int _ (.ofNat i) => bif Nat.blt i len then partA agg (i * sz) sz cs else .fail 18
  | _, _ => .fail 18

noncomputable def findA (g : Sg) (k : AV) : List AEnt → Nat → Option (Option (Nat × AV))
  | [], _ => some none
  | e :: es, i => match eqA g k e.key with
    | some true => some (some (i, e.val))
    | some false => findA g k es (i + 1)
    | none => none

/-- a key has as many cells as its type -/
noncomputable def keyOk (g : Sg) (k : AV) : Bool :=
  match k with
  | .agg l => bif g.ag then Nat.beq (List.length l) (List.length g.tg) else false
  | _ => !g.ag

noncomputable def entries (h : AH) : AV → Option (List AEnt)
  | .map0 => some []
  | .map b => match h.get b with | .map es _ => some es | _ => none
  | _ => none

noncomputable def iLk (h : AH) (g : Sg) (z : AV) (ok : Bool) (m k : AV) : IR :=
  bif !keyOk g k then .fail 19 else
  match entries h m with
  | some es => match findA g k es 0 with
    | some (some (_, v)) => .v (bif ok then .tup [v, .bool true] else v)
    | some none => .v (bif ok then .tup [z, .bool false] else z)
    | none => .fail 19
  | none => .fail 19

noncomputable def setEnt (k v : AV) : Nat → List AEnt → List AEnt
  | _, [] => []
  | 0, e :: es => ⟨k, v, e.born⟩ :: es
  | n + 1, e :: es => e :: setEnt k v n es

noncomputable def iMu (h : AH) (g : Sg) (m k v : AV) : IR :=
  bif !keyOk g k then .fail 20 else
  match m with
  | .map b => match h.get b with
    | .map es c => match findA g k es 0 with
      | some (some (i, _)) => .vh undefA (h.set b (.map (setEnt k v i es) c))
      | some none => .vh undefA (h.set b (.map (es ++ [⟨k, v, c⟩]) (c + 1)))
      | none => .fail 20
    | _ => .fail 20
  | _ => .fail 20

noncomputable def bornAt : Nat → List AEnt → Option Nat
  | _, [] => none
  | 0, e :: _ => some e.born
  | n + 1, _ :: es => bornAt n es

noncomputable def iMe (h : AH) (g : Sg) (z : AV) (m k : AV) : IR :=
  bif !keyOk g k then .fail 21 else
  match m with
  | .map b => match h.get b with
    | .map es c => match findA g k es 0 with
      | some (some (i, v)) => match bornAt i es with
        | some q => .vh (.tup [v, .int .i64 (.ofNat q)]) (h.set b (.map (setEnt k v i es) c))
        | none => .fail 21
      | some none => .vh (.tup [z, .int .i64 (.ofNat c)]) (h.set b (.map (es ++ [⟨k, z, c⟩]) (c + 1)))
      | none => .fail 21
    | _ => .fail 21
  | _ => .fail 21

/-- the entry that was born then gets a value -/
noncomputable def stamp (s : Nat) (v : AV) : List AEnt → Option (List AEnt)
  | [] => none
  | e :: es => bif Nat.beq e.born s then some (⟨e.key, v, e.born⟩ :: es) else
    match stamp s v es with | some r => some (e :: r) | none => none

noncomputable def iEs (h : AH) (m s v : AV) : IR :=
  match m, s with
  | .map b, .int _ (.ofNat s) => match h.get b with
    | .map es c => match stamp s v es with
      | some es => .vh undefA (h.set b (.map es c))
      | none => .fail 22
    | _ => .fail 22
  | _, _ => .fail 22

noncomputable def iRg (h : AH) (str : Bool) (x : AV) : IR :=
  match str, x with
  | true, .str s => .vh (.ptr h.nxt 0) (h.new (.strIter s 0))
  | false, .map0 => .vh (.ptr h.nxt 0) (h.new (.mapIter none 0 [] 0))
  | false, .map m => match h.get m with
    | .map _ c => .vh (.ptr h.nxt 0) (h.new (.mapIter (some m) c [] c))
    | _ => .fail 23
  | _, _ => .fail 23

noncomputable def hasN (n : Nat) : List Nat → Bool
  | [] => false
  | a :: l => bif Nat.beq a n then true else hasN n l

/-- the entries that an iterator has not yet met: those of before, those of later -/
noncomputable def left (since : Nat) (seen : List Nat) : List AEnt → List AEnt × List AEnt
  | [] => ([], [])
  | e :: es =>
    let r := left since seen es
    bif hasN e.born seen then r else bif Nat.blt e.born since then (e :: r.1, r.2) else (r.1, e :: r.2)
noncomputable def allLater (last : Nat) : List AEnt → Bool
  | [] => true
  | e :: es => bif Nat.ble last e.born then allLater last es else false

noncomputable def nxOne (h : AH) (b m : P) (since : Nat) (seen : List Nat) (clock : Nat) (e : AEnt) : AV × AH :=
  (.tup [.bool true, e.key, e.val], h.set b (.mapIter (some m) since (seen ++ [e.born]) clock))

noncomputable def nonN : List Nat → Bool
  | [] => false
  | _ :: _ => true
noncomputable def nonE : List AEnt → Bool
  | [] => false
  | _ :: _ => true

noncomputable def nxMap (h : AH) (b m : P) (since : Nat) (seen : List Nat) (last : Nat) (es : List AEnt) (clock : Nat) : IR :=
  bif nonN seen && nonE es && allLater last es then .fail 24 else
  match left since seen es with
  | ([], []) => .v (.tup [.bool false])
  | ([e], []) => .vh (nxOne h b m since seen clock e).1 (nxOne h b m since seen clock e).2
  | (e :: l, []) => .br ((e :: l).map (nxOne h b m since seen clock))
  | _ => .fail 25

noncomputable def iNx (h : AH) (str : Bool) (it : AV) : IR :=
  match it with
  | .ptr b 0 => match h.get b with
    | .strIter s pos => match str, dropL pos s with
      | true, [] => .v (.tup [.bool false])
      | true, c :: _ => bif Nat.blt c 128 then .vh (.tup [.bool true, .int .i64 (.ofNat pos), .int .i32 (.ofNat c)]) (h.set b (.strIter s (pos + 1))) else .fail 26
      | _, _ => .fail 26
    | .mapIter none _ _ _ => bif str then .fail 26 else .v (.tup [.bool false])
    | .mapIter (some m) since seen last => bif str then .fail 26 else match h.get m with
      | .map es c => nxMap h b m since seen last es c
      | _ => .fail 26
    | _ => .fail 26
  | _ => .fail 26

noncomputable def lastN : List Nat → Option Nat
  | [] => none
  | [a] => some a
  | _ :: l => lastN l
noncomputable def entBorn (s : Nat) : List AEnt → Option AEnt
  | [] => none
  | e :: es => bif Nat.beq e.born s then some e else entBorn s es

noncomputable def iEn (h : AH) (it : AV) : IR :=
  match it with
  | .ptr b 0 => match h.get b with
    | .mapIter (some m) _ seen stepped => match h.get m, lastN seen with
      | .map es c, some s => bif Nat.beq c stepped then (match entBorn s es with | some e => .v (.tup [e.key, e.val]) | none => .fail 27) else .fail 27
      | _, _ => .fail 27
    | _ => .fail 27
  | _ => .fail 27

noncomputable def iTa (t : TypeId) (z : AV) (ok : Bool) (x : AV) : IR :=
  match x with
  | .iface u v => bif Nat.beq u t then .v (bif ok then .tup [v, .bool true] else v) else bif ok then .v (.tup [z, .bool false]) else .fail 28
  | .iface0 => bif ok then .v (.tup [z, .bool false]) else .fail 28
  | _ => .fail 28

noncomputable def lenA : AV → Option Nat
  | .sl0 => some 0
  | .sl _ _ _ n _ => some n
  | .str s => some (List.length s)
  | _ => none

noncomputable def iLenS : AV → IR
  | .str s => .v (.int .i64 (.ofNat (List.length s)))
  | _ => .fail 29
noncomputable def iLenL : AV → IR
  | .sl _ _ _ n _ => .v (.int .i64 (.ofNat n))
  | .sl0 => .v (.int .i64 (.ofNat 0))
  | _ => .fail 29
noncomputable def iLenM (h : AH) (x : AV) : IR :=
  match entries h x with
  | some es => .v (.int .i64 (.ofNat (List.length es)))
  | none => .fail 29

noncomputable def iCap : AV → IR
  | .sl0 => .v (.int .i64 (.ofNat 0))
  | .sl _ _ _ _ (.exact c) => .v (.int .i64 (.ofNat c))
  | _ => .fail 30

noncomputable def elems (h : AH) (sz n : Nat) : AV → Option (List AV)
  | .sl0 => some []
  | .sl b _ off _ _ => match h.get b with
    | .cells _ cs => slabL (n * sz) (dropL off cs)
    | _ => none
  | .str s => bif Nat.beq sz 1 then some ((s.take n).map fun c => .int .u8 (.ofNat c)) else none
  | _ => none

/-- n elements, with their cells, are appended -/
noncomputable def appE (h : AH) (sz : Nat) (s : AV) (new : List AV) (n : Nat) : IR :=
  match n with
  | 0 => (match s with | .sl0 => .v .sl0 | .sl .. => .v s | _ => .fail 31)
  | n + 1 => match s with
    | .sl0 => bif Nat.blt 1000000 (n + 1) then .fail 31 else .vh (.sl h.nxt 0 0 (n + 1) (.ghost 0 sz)) (h.new (.cells true new))
    | .sl b alt off len c => match h.get b with
      | .cells own cs =>
        let need := len + (n + 1)
        bif Nat.blt 1000000 need then .fail 31 else
        match c with
        | .exact c =>
          bif Nat.ble need c then
            (match storeA h b (off + len * sz) new with | some h => .vh (.sl b alt off need (.exact c)) h | none => .fail 31)
          else (match slabL (len * sz) (dropL off cs) with
            | some old => .vh (.sl h.nxt 0 0 need (.ghost 0 sz)) (h.new (.cells true (old ++ new)))
            | none => .fail 31)
        | .ghost g gs => bif Nat.beq gs sz then
          bif Nat.ble (off + need * sz) (List.length cs) then
            (match storeA h b (off + len * sz) new with | some h => .vh (.sl b alt off need (.ghost g gs)) h | none => .fail 31)
          else bif own && Nat.ble off (List.length cs) then (match slabL (len * sz) (dropL off cs) with
            | some old => .vh (.sl h.nxt 0 0 need (.ghost 0 sz)) ((h.set b .none).new (.cells true (old ++ new)))
            | none => .fail 31) else .fail 31
          else .fail 31
      | _ => .fail 31
    | _ => .fail 31

noncomputable def iApp (h : AH) (sz : Nat) (s x : AV) : IR :=
  match lenA x with
  | some n => match elems h sz n x with
    | some new => appE h sz s new n
    | none => .fail 31
  | none => .fail 31

noncomputable def iApz (h : AH) (sz : Nat) (z : List AV) (s x : AV) : IR :=
  match natOf x with
  | some n => bif Nat.blt n 100000 then appE h sz s (repl z n) n else .fail 32
  | none => .fail 32

noncomputable def lenD : AV → Option Nat
  | .sl0 => some 0
  | .sl _ _ _ n _ => some n
  | _ => none

noncomputable def iCpy (h : AH) (sz : Nat) (d s : AV) : IR :=
  match lenD d, lenA s with
  | some a, some b =>
    match bif Nat.ble a b then a else b with
    | 0 => .v (.int .i64 (.ofNat 0))
    | n + 1 => match elems h sz (n + 1) s, d with
      | some new, .sl b _ off _ _ => (match storeA h b off new with | some h => .vh (.int .i64 (.ofNat (n + 1))) h | none => .fail 33)
      | _, _ => .fail 33
  | _, _ => .fail 33

noncomputable def byteL : List AV → Option (List Nat)
  | [] => some []
  | .int .u8 (.ofNat n) :: r => bif Nat.blt n 256 then (match byteL r with | some l => some (n :: l) | none => none) else none
  | _ => none
/-- bytes to a string -/
noncomputable def iCvb (h : AH) (x : AV) : IR :=
  match x with
  | .sl0 => .v (.str [])
  | .sl _ _ _ n _ => match elems h 1 n x with
    | some l => match byteL l with | some s => .v (.str s) | none => .fail 48
    | none => .fail 48
  | _ => .fail 48

noncomputable def iClr (h : AH) (z : List AV) (s : AV) : IR :=
  match s with
  | .sl0 => .v undefA
  | .sl b _ off n _ => match n with
    | 0 => .v undefA
    | n + 1 => (match storeA h b off (repl z (n + 1)) with | some h => .vh undefA h | none => .fail 34)
  | _ => .fail 34

noncomputable def iMks (h : AH) (z : List AV) (l c : AV) : IR :=
  match natOf l, natOf c with
  | some l, some c => bif Nat.ble l c && Nat.blt c 100000 then .vh (.sl h.nxt 0 0 l (.exact c)) (h.new (.cells true (repl z c))) else .fail 35
  | _, _ => .fail 35

noncomputable def mnL (mx : Bool) (k : IntKind) (a : Int) : List AV → IR
  | [] => .v (.int k a)
  | .int _ b :: r => mnL mx k (bif (bif mx then ltI a b else ltI b a) then b else a) r
  | _ => .fail 36
noncomputable def iMn (mx : Bool) (x : AV) (r : List AV) : IR :=
  match x with
  | .int k a => mnL mx k a r
  | _ => .fail 36

noncomputable def eraseA : Nat → List AEnt → List AEnt
  | _, [] => []
  | 0, _ :: es => es
  | n + 1, e :: es => e :: eraseA n es
noncomputable def iDel (h : AH) (g : Sg) (m k : AV) : IR :=
  bif !keyOk g k then .fail 37 else
  match m with
  | .map0 => .v undefA
  | .map b => match h.get b with
    | .map es c => match findA g k es 0 with
      | some (some (i, _)) => .vh undefA (h.set b (.map (eraseA i es) c))
      | some none => .v undefA
      | none => .fail 37
    | _ => .fail 37
  | _ => .fail 37

noncomputable def iCvi (k : IntKind) : AV → IR
  | .int _ n => .v (wrapA k n)
  | _ => .fail 38
noncomputable def iCvs : AV → IR
  | .str s => .v (.str s)
  | .int _ (.ofNat n) => bif Nat.blt n 128 then .v (.str [n]) else .fail 39
  | _ => .fail 39
noncomputable def iNck (x : AV) : IR :=
  match x with
  | .ptr .. | .fn .. | .yld _ => .v x
  | _ => .fail 40
noncomputable def iFa (off : Nat) : AV → IR
  | .ptr b o => .v (.ptr b (Nat.add o off))
  | _ => .fail 41
noncomputable def iFld (agg : Bool) (off n : Nat) : AV → IR
  | .agg cs => partA agg off n cs
  | _ => .fail 42
noncomputable def iPick (c a b : AV) : IR :=
  match c with
  | .bool t => .v (bif t then a else b)
  | _ => .fail 43
noncomputable def iNot : AV → IR
  | .bool b => .v (.bool (!b))
  | _ => .fail 44
noncomputable def iNeg : AV → IR
  | .int k n => .v (wrapA k (negI n))
  | _ => .fail 45
noncomputable def iEx (i : Nat) : AV → IR
  | .tup l => match nth l i with | some v => .v v | none => .fail 46
  | _ => .fail 46
noncomputable def iPan : AV → IR
  | .iface t v => .panic (.iface t v)
  | _ => .fail 47
noncomputable def iBox (h : AH) (x : AV) : IR :=
  match cellsA x with
  | [] => .fail 52
  | a :: l => .vh (.ptr h.nxt 0) (h.new (.cells true (a :: l)))
noncomputable def iNew (h : AH) (z : List AV) : IR := .vh (.ptr h.nxt 0) (h.new (.cells true z))
noncomputable def iMkm (h : AH) : IR := .vh (.map h.nxt) (h.new (.map [] 0))
noncomputable def iMkmr (h : AH) : AV → IR
  | .int _ _ => iMkm h
  | _ => .fail 54

noncomputable def iDfr (f : AV) (args : List AV) : IR :=
  match f with
  | .fn p a b => .defer ⟨.fn p a b, args⟩
  | _ => .fail 53

noncomputable def ins1 (tm : T AV) (h : AH) (i : Ins) : IR :=
  match i with
  | .mv x => .v (opd tm x)
  | .pick c a b => iPick (opd tm c) (opd tm a) (opd tm b)
  | .new z => iNew h z
  | .box x => iBox h (opd tm x)
  | .bld z ps => iBld tm z ps
  | .bsl z n ps => iBsl tm h z n ps
  | .ld1 a => iLd1 h (opd tm a)
  | .ldn n a => iLdn h n (opd tm a)
  | .st1 a x => iSt1 h (opd tm a) (opd tm x)
  | .stn n a x => iStn h n (opd tm a) (opd tm x)
  | .nck x => iNck (opd tm x)
  | .bin op x y => iBin op (opd tm x) (opd tm y)
  | .nul kd ne x y => iNul kd ne (opd tm x) (opd tm y)
  | .eqc g ne x y => iEqc g ne (opd tm x) (opd tm y)
  | .not x => iNot (opd tm x)
  | .neg x => iNeg (opd tm x)
  | .cvi k x => iCvi k (opd tm x)
  | .cvs x => iCvs (opd tm x)
  | .cvb x => iCvb h (opd tm x)
  | .mki t x => .v (.iface t (opd tm x))
  | .mkf f a b => .v (.fn f (opds tm a) (opds tm b))
  | .mkm => iMkm h
  | .mkmr x => iMkmr h (opd tm x)
  | .mks z l c => iMks h z (opd tm l) (opd tm c)
  | .sls sz x lo hi mx => iSls tm sz (opd tm x) lo hi mx
  | .slt x lo hi => iSlt tm (opd tm x) lo hi
  | .sla n sz x lo hi mx => iSla tm n sz (opd tm x) lo hi mx
  | .fa off x => iFa off (opd tm x)
  | .fld1 off x => iFld false off 1 (opd tm x)
  | .fldn off n x => iFld true off n (opd tm x)
  | .ia sz x i => iIa sz (opd tm x) (opd tm i)
  | .iaa len sz x i => iIaa len sz (opd tm x) (opd tm i)
  | .ixs x i => iIxs (opd tm x) (opd tm i)
  | .ixa len sz agg x i => iIxa len sz agg (opd tm x) (opd tm i)
  | .lk g z ok m k => iLk h g z ok (opd tm m) (opd tm k)
  | .mu g m k v => iMu h g (opd tm m) (opd tm k) (opd tm v)
  | .me g z m k => iMe h g z (opd tm m) (opd tm k)
  | .es m s v => iEs h (opd tm m) (opd tm s) (opd tm v)
  | .rg str x => iRg h str (opd tm x)
  | .nx str it => iNx h str (opd tm it)
  | .en it => iEn h (opd tm it)
  | .ta t z ok x => iTa t z ok (opd tm x)
  | .ex i x => iEx i (opd tm x)
  | .call f args => .call f (opds tm args)
  | .callv f args => .callv (opd tm f) (opds tm args)
  | .lenC n _ => .v (.int .i64 (.ofNat n))
  | .lenS x => iLenS (opd tm x)
  | .lenL x => iLenL (opd tm x)
  | .lenM x => iLenM h (opd tm x)
  | .cap x => iCap (opd tm x)
  | .app sz s x => iApp h sz (opd tm s) (opd tm x)
  | .apz sz z s x => iApz h sz z (opd tm s) (opd tm x)
  | .cpy sz d s => iCpy h sz (opd tm d) (opd tm s)
  | .clr z s => iClr h z (opd tm s)
  | .mn mx x r => iMn mx (opd tm x) (opds tm r)
  | .del g m k => iDel h g (opd tm m) (opd tm k)
  | .rcv => .recover
  | .pan x => iPan (opd tm x)
  | .dfr f args => iDfr (opd tm f) (opds tm args)
  | .chk _ _ => .fail 50

mutual
noncomputable def eqV : AV → AV → Bool
  | .bool a, .bool b => bif a then b else !b
  | .int k a, .int k' b => bif kEq k k' then eqI a b else false
  | .str a, .str b => eqL a b
  | .ptr0, .ptr0 => true
  | .ptr b o, .ptr b' o' => decide (b = b') && Nat.beq o o'
  | .sl0, .sl0 => true
  | .sl b a o n c, .sl b' a' o' n' c' => decide (b = b') && Nat.beq a a' && Nat.beq o o' && Nat.beq n n' && decide (c = c')
  | .map0, .map0 => true
  | .map b, .map b' => decide (b = b')
  | .fn f a b, .fn f' a' b' => decide (f = f') && eqVs a a' && eqVs b b'
  | .yld l, .yld l' => decide (l = l')
  | .fn0, .fn0 => true
  | .iface t v, .iface t' v' => Nat.beq t t' && eqV v v'
  | .iface0, .iface0 => true
  | .agg l, .agg l' => eqVs l l'
  | .tup l, .tup l' => eqVs l l'
  | _, _ => false
noncomputable def eqVs : List AV → List AV → Bool
  | [], [] => true
  | a :: x, b :: y => eqV a b && eqVs x y
  | _, _ => false
end

noncomputable def iChk (r : IR) (a : AV) : IR :=
  match r with
  | .v x => bif eqV x a then .v undefA else .fail 51
  | _ => .fail 51

noncomputable def ins (tm : T AV) (h : AH) (i : Ins) : IR :=
  match i with
  | .chk j d => iChk (ins1 tm h j) (T.get undefA d tm)
  | i => ins1 tm h i

structure Env where
  tab : P → Option CFn
  orc : P → List AV → AH → Option AV

noncomputable def want1 (tm : T AV) (q : P × Bool) : Bool := match q with
  | (p, b) => match T.get undefA p tm with
    | .bool c => bif b then c else !c
    | _ => false
noncomputable def want (tm : T AV) (o : Option (P × Bool)) : Bool := Option.rec (motive := fun _ => Bool) true (fun q => want1 tm q) o
noncomputable def putD (tm : T AV) (v : AV) (o : Option P) : T AV := Option.rec (motive := fun _ => T AV) tm (fun p => T.put undefA v p tm) o

noncomputable def bindTm : P → List AV → T AV → T AV
  | _, [], t => t
  | p, a :: r, t => bindTm p.succ r (T.put undefA a p t)

inductive RR where
  | fin (tm : T AV) (h : AH)
  | stop (tm : T AV) (h : AH) (rest : List GI) (r : IR)      -- the first of rest is in the making
  deriving Inhabited

noncomputable def region (tm : T AV) (h : AH) (l : List GI) : RR :=
  List.rec (motive := fun _ => T AV → AH → RR) (fun tm h => .fin tm h)
    (fun gi rest ih tm h => GI.rec (motive := fun _ => RR) (fun g d i =>
      Bool.rec (motive := fun _ => RR) (ih (putD tm undefA d) h)
        (IR.rec (motive := fun _ => RR) (fun x => ih (putD tm x d) h) (fun x h => ih (putD tm x d) h)
          (fun f a => .stop tm h (gi :: rest) (.call f a)) (fun f a => .stop tm h (gi :: rest) (.callv f a)) (fun d => .stop tm h (gi :: rest) (.defer d))
          (.stop tm h (gi :: rest) .recover) (fun v => .stop tm h (gi :: rest) (.panic v)) (fun l => .stop tm h (gi :: rest) (.br l)) (fun w => .stop tm h (gi :: rest) (.fail w))
          (ins tm h i)) (want tm g)) gi) l tm h


noncomputable def isRun : AMode → Bool
  | .run => true
  | _ => false

noncomputable def finishA (fr : AFr) (v : AV) : Option AFr :=
  bif isRun fr.mt.md then (match fr.todo with
    | .act (gi :: rest) :: k => some ⟨putD fr.tm v gi.d, .reg rest :: k, fr.mt⟩
    | .rf l :: k => some ⟨fr.tm, .erf l :: k, fr.mt⟩
    | _ => none) else none

noncomputable def exitA (id : Nat) : List AItem → Option (List AItem)
  | .inBlock id' :: k => bif Nat.beq id' id then some k else exitA id k
  | _ :: k => exitA id k
  | [] => none

noncomputable def findLab : CC → Nat → Option CC
  | .seq a b, l => match findLab a l with
    | some r => some (.seq r b)
    | none => findLab b l
  | .label l', l => bif Nat.beq l' l then some .skip else none
  | _, _ => none

noncomputable def gotoA (l : Nat) : List AItem → Option (List AItem)
  | .inScope body :: k => match findLab body l with
    | some rest => some (.code rest :: .inScope body :: k)
    | none => gotoA l k
  | _ :: k => gotoA l k
  | [] => none

noncomputable def settleA : AMode → AMode
  | .panicking (p :: o) => bif p.rc then .returning else .panicking (p :: o)
  | m => m

noncomputable def retA (mt : AMeta) (cs : List AFr) (v : AV) (h : AH) : R :=
  match cs with
  | [] => bif mt.dk then .fail 122 else .done mt.fn v h
  | c :: rest => bif mt.dk then .next c.tm c.todo ⟨c.mt.fn, c.mt.df, settleA c.mt.md, c.mt.dk, c.mt.ro⟩ rest h
    else match finishA c v with | some c => .next c.tm c.todo c.mt rest h | none => .fail 100

noncomputable def retB (mt : AMeta) (cs : List AFr) (v : AV) (h : AH) : R :=
  match cs with
  | [] => .fail 121
  | c :: rest => bif mt.dk then .fail 121 else match finishA c v with | some c => .next c.tm c.todo c.mt rest h | none => .fail 100

noncomputable def leaveA (tm : T AV) (mt : AMeta) (cs : List AFr) (h : AH) (j : Jmp) : R :=
  match mt.ro with
  | none => match j with
    | .exit _ => .fail 101
    | .goto _ => .fail 101
    | _ => .next tm [] ⟨mt.fn, mt.df, .returning, mt.dk, none⟩ cs h
  | some l => match h.get l with
    | .loop _ _ fn t ps a b d => match j with
      | .none => retB mt cs (.bool true) (h.set l (.loop .ready .none fn t ps a b d))
      | j => retB mt cs (.bool false) (h.set l (.loop .done j fn t ps a b d))
    | _ => .fail 102

variable (E : Env)

noncomputable def enterA (dk : Bool) (f : P) (args : List AV) (cs : List AFr) (h : AH) : R :=
  match E.tab f with
  | some c => .next (bindTm .z args .leaf) [.code c.body] ⟨f, [], .run, dk, none⟩ cs h
  | none => .fail 103

noncomputable def bindPs : List P → List AV → T AV → Option (T AV)
  | [], [], t => some t
  | p :: ps, a :: r, t => bindPs ps r (T.put undefA a p t)
  | _, _, _ => none

noncomputable def roundA (dk : Bool) (l : P) (args : List AV) (cs : List AFr) (h : AH) : R :=
  match h.get l with
  | .loop _ _ fn t ps a b _ => match bindPs ps args t with
    | some t => .next t [.code a, .br, .code b] ⟨fn, [], .run, dk, some l⟩ cs h
    | none => .fail 104
  | _ => .fail 104

/-- a call: the frame that waits is given -/
noncomputable def callA (dk : Bool) (f : P) (args : List AV) (fr : AFr) (cs : List AFr) (h : AH) : R :=
  match E.orc f args h with
  | some v => bif dk then .fail 105 else match finishA fr v with | some c => .next c.tm c.todo c.mt cs h | none => .fail 105
  | none => enterA E dk f args (fr :: cs) h

noncomputable def callvA (dk : Bool) (f : AV) (args : List AV) (fr : AFr) (cs : List AFr) (h : AH) : R :=
  match f with
  | .fn g first cap => callA E dk g (first ++ args ++ cap) fr cs h
  | .yld l => roundA dk l args (fr :: cs) h
  | _ => .fail 106

noncomputable def stopA (tm : T AV) (todo : List AItem) (mt : AMeta) (cs : List AFr) (h : AH) (r : IR) : R :=
  match r with
  | .call f args => callA E false f args ⟨tm, todo, mt⟩ cs h
  | .callv f args => callvA E false f args ⟨tm, todo, mt⟩ cs h
  | .defer d => match mt.ro, finishA ⟨tm, todo, mt⟩ undefA with
    | none, some c => .next c.tm c.todo ⟨mt.fn, d :: mt.df, mt.md, mt.dk, none⟩ cs h
    | _, _ => .fail 107
  | .recover => match mt.ro, mt.dk, cs with
    | none, true, c :: rest => (match c.mt.md with
      | .panicking (⟨v, false⟩ :: older) => (match finishA ⟨tm, todo, mt⟩ v with
        | some a => .next a.tm a.todo a.mt (⟨c.tm, c.todo, ⟨c.mt.fn, c.mt.df, .panicking (⟨v, true⟩ :: older), c.mt.dk, c.mt.ro⟩⟩ :: rest) h
        | none => .fail 108)
      | _ => (match finishA ⟨tm, todo, mt⟩ .iface0 with | some a => .next a.tm a.todo a.mt cs h | none => .fail 108))
    | none, false, cs => (match finishA ⟨tm, todo, mt⟩ .iface0 with | some a => .next a.tm a.todo a.mt cs h | none => .fail 108)
    | _, _, _ => .fail 108
  | .panic v => .next tm todo ⟨mt.fn, mt.df, .panicking [⟨v, false⟩], mt.dk, mt.ro⟩ cs h
  | .br l => .many (l.map fun q => match finishA ⟨tm, todo, mt⟩ q.1 with | some a => .next a.tm a.todo a.mt cs q.2 | none => .fail 109)
  | .fail w => .fail w
  | _ => .fail 109

noncomputable def resA (tm : T AV) (h : AH) : List (P × Nat) → Option (List AV)
  | [] => some []
  | (p, 0) :: r => match resA tm h r with | some l => some (T.get undefA p tm :: l) | none => none
  | (p, n + 1) :: r =>
    match bif Nat.beq n 1000000 then iLd1 h (T.get undefA p tm) else iLdn h n (T.get undefA p tm), resA tm h r with
    | .v x, some l => some (x :: l)
    | _, _ => none

noncomputable def unwindA (tm : T AV) (mt : AMeta) (cs : List AFr) (h : AH) : R :=
  match mt.df with
  | ⟨.ptr b _, _⟩ :: ds => match h.get b with
    | .deferred (some l) => .next tm [] ⟨mt.fn, l ++ ds, mt.md, mt.dk, mt.ro⟩ cs (h.set b (.deferred none))
    | _ => .fail 110
  | d :: ds => callvA E true d.tgt d.args ⟨tm, [], ⟨mt.fn, ds, mt.md, mt.dk, mt.ro⟩⟩ cs h
  | [] => match mt.md with
    | .run => .fail 111
    | .panicking ch => match cs with
      | c :: rest => .next c.tm c.todo ⟨c.mt.fn, c.mt.df, (match c.mt.md with | .panicking old => .panicking (ch ++ old) | _ => .panicking ch), c.mt.dk, c.mt.ro⟩ rest h
      | [] => .fail 112
    | .returning => match E.tab mt.fn with
      | some c => match resA tm h c.res with
        | some [v] => retA mt cs v h
        | some l => retA mt cs (.tup l) h
        | none => .fail 113
      | none => .fail 114

noncomputable def rfA (f : AV) (ps : List P) (a b : CC) (tm : T AV) (k : List AItem) (mt : AMeta) (cs : List AFr) (h : AH) : R :=
  match mt.ro with
  | some l => match h.get l with
    | .loop _ _ _ _ _ _ _ d => callvA E false f [.yld h.nxt] ⟨tm, .rf h.nxt :: k, mt⟩ cs (h.new (.loop .ready .none mt.fn tm ps a b d))
    | _ => .fail 115
  | none =>
    let d := h.nxt
    let h := h.new (.deferred (some []))
    callvA E false f [.yld h.nxt] ⟨tm, .rf h.nxt :: k, ⟨mt.fn, ⟨.ptr d 0, []⟩ :: mt.df, mt.md, mt.dk, mt.ro⟩⟩ cs (h.new (.loop .ready .none mt.fn tm ps a b d))

noncomputable def codeA (c : CC) (tm : T AV) (k : List AItem) (mt : AMeta) (cs : List AFr) (h : AH) : R :=
  match c with
  | .skip => .next tm k mt cs h
  | .reg l => .next tm (.reg l :: k) mt cs h
  | .seq a b => .next tm (.code a :: .code b :: k) mt cs h
  | .cond c a b => match opd tm c with
    | .bool t => .next tm (.code (bif t then a else b) :: k) mt cs h
    | _ => .fail 116
  | .block id c => .next tm (.code c :: .inBlock id :: k) mt cs h
  | .loop c => .next tm (.code c :: .inLoop c :: k) mt cs h
  | .rf f ps a b => rfA E (opd tm f) ps a b tm k mt cs h
  | .exit id => match exitA id k with
    | some k => .next tm k mt cs h
    | none => leaveA tm mt cs h (.exit id)
  | .ret => leaveA tm mt cs h .ret
  | .scope c => .next tm (.code c :: .inScope c :: k) mt cs h
  | .label _ => .next tm k mt cs h
  | .goto l => match gotoA l k with
    | some k => .next tm k mt cs h
    | none => leaveA tm mt cs h (.goto l)
  | .bad => .fail 117

noncomputable def runTodo (tm : T AV) (todo : List AItem) (mt : AMeta) (cs : List AFr) (h : AH) : R :=
  match todo with
  | [] => leaveA tm mt cs h .none
  | x :: k => match x with
    | .code c => codeA E c tm k mt cs h
    | .inBlock _ => .next tm k mt cs h
    | .inLoop c => .next tm (.code c :: .inLoop c :: k) mt cs h
    | .inScope _ => .next tm k mt cs h
    | .reg l => match region tm h l with
      | .fin tm h => .next tm k mt cs h
      | .stop tm h rest r => stopA E tm (.act rest :: k) mt cs h r
    | .act _ => .fail 123
    | .rf _ => .fail 118
    | .br => match mt.ro with
      | some l => match h.get l with
        | .loop .ready p fn t ps a b d => .next tm k mt cs (h.set l (.loop .busy p fn t ps a b d))
        | _ => .fail 119
      | none => .fail 119
    | .erf l => match h.get l with
      | .loop st p fn t ps a b d => match st with
        | .busy => .fail 120
        | _ => match p with
          | .none => .next tm k mt cs (h.set l (.loop .exhausted p fn t ps a b d))
          | .ret => .next tm (.code .ret :: k) mt cs (h.set l (.loop .exhausted p fn t ps a b d))
          | .goto l' => .next tm (.code (.goto l') :: k) mt cs (h.set l (.loop .exhausted p fn t ps a b d))
          | .exit id => .next tm (.code (.exit id) :: k) mt cs (h.set l (.loop .exhausted p fn t ps a b d))
      | _ => .fail 120

noncomputable def stepA (tm : T AV) (todo : List AItem) (mt : AMeta) (cs : List AFr) (h : AH) : R :=
  match mt.md with
  | .run => runTodo E tm todo mt cs h
  | _ => unwindA E tm mt cs h

end Go.Proofs.YtlklnffmhclioaaGreatDoor.Ev

namespace Go.Proofs.YtlklnffmhclioaaGreatDoor.Ev

noncomputable def bytesA (s : ByteArray) : List Nat := s.data.toList.map UInt8.toNat

mutual
noncomputable def ofV : Nat → Value → Option AV
  | 0, _ => none
  | k + 1, v => match v with
    | .bool b => some (.bool b)
    | .int k n => some (.int k n)
    | .string s => some (.str (bytesA s))
    | .pointer none => some .ptr0
    | .slice none 0 0 => some .sl0
    | .map none => some .map0
    | .nilFunc => some .fn0
    | .nilIface => some .iface0
    | .agg cs => if cs.toList.all Value.oneCell' then (ofVs k cs.toList).map .agg else none
    | .tuple cs => (ofVs k cs.toList).map .tup
    | .func (.func f) ⟨[]⟩ ⟨[]⟩ => some (.fn (P.slot f) [] [])
    | .iface t v => (ofV k v).map (.iface t)
    | _ => none
noncomputable def ofVs : Nat → List Value → Option (List AV)
  | 0, _ => none
  | _, [] => some []
  | k + 1, v :: l => match ofV k v, ofVs k l with
    | some a, some b => some (a :: b)
    | _, _ => none
end

variable (Pr : Program)

noncomputable def cOpd : Operand → Option Opd
  | .tmp t => some (.s (P.slot t))
  | .const v => (ofV 1000 v).map .c
  | .global g => if g < Pr.globals.size then some (.c (.ptr (P.slot g) 0)) else none
  | .func f => some (.c (.fn (P.slot f) [] []))

noncomputable def cOpds : List Operand → Option (List Opd)
  | [] => some []
  | x :: r => match cOpd Pr x, cOpds r with
    | some a, some b => some (a :: b)
    | _, _ => none

noncomputable def cOpt : Option Operand → Option (Option Opd)
  | none => some none
  | some x => (cOpd Pr x).map some

noncomputable def tAgg (t : TypeId) : Option Bool :=
  match Pr.underlying t with
  | some (.struct _) | some (.array _ _) => some true
  | some _ => some false
  | none => none
noncomputable def tSz (t : TypeId) : Option Nat := (Pr.info? t).map (·.size)
noncomputable def tZero (t : TypeId) : Option AV := (Pr.info? t).bind fun i => i.zero.bind (ofV 1000)

/-- the cells of a type's zero value, as many as the type has -/
noncomputable def tZc (t : TypeId) : Option (List AV) :=
  match tZero Pr t, tSz Pr t with
  | some (.tup _), _ => none
  | some z, some n => if (cellsA z).length = n then some (cellsA z) else none
  | _, _ => none
/-- elements that may be appended: of some cells, of not too many bytes -/
noncomputable def tEl (t : TypeId) : Option Nat := (Pr.info? t).bind fun i => if i.size ≠ 0 ∧ i.bytes ≤ 1048576 ∧ (tZc Pr t).isSome then some i.size else none

noncomputable def reps (l : List Nat) : Nat → List Nat
  | 0 => []
  | n + 1 => l ++ reps l n

mutual
/-- the kinds of a type's cells, if all of them are numbers, bools, strings, and all count -/
noncomputable def flatN : Nat → TypeId → Option (List Nat)
  | 0, _ => none
  | d + 1, t => match Pr.underlying t with
    | some .bool => some [0]
    | some (.int _) => some [1]
    | some .string => some [2]
    | some (.struct fs) => if Pr.stoodInHeld t then none else flatFs d fs.toList 0
    | some (.array n e) => match flatN d e with
      | some k => if tSz Pr e = some k.length then some (reps k n) else none
      | none => none
    | _ => none
noncomputable def flatFs : Nat → List Field → Nat → Option (List Nat)
  | 0, _, _ => none
  | _ + 1, [], _ => some []
  | d + 1, f :: r, acc => match flatN d f.type, flatFs d r (acc + ((tSz Pr f.type).getD 0)) with
    | some k, some l => if f.name ≠ "_" ∧ f.offset = acc ∧ tSz Pr f.type = some k.length then some (k ++ l) else none
    | _, _ => none
end

/-- how two values of a type are held against each other -/
noncomputable def flatE (t : TypeId) : Option Sg :=
  match tAgg Pr t, flatN Pr 60 t with
  | some b, some l => some ⟨b, l⟩
  | _, _ => none

noncomputable def cParts (place : Nat → Option (Nat × Nat)) : List (Nat × Operand) → Option (List (Nat × Nat × Opd))
  | [] => some []
  | (i, x) :: r => do
    let (off, n) ← place i
    some ((off, n, ← cOpd Pr x) :: (← cParts place r))

noncomputable def place (fs : List Field) (i : Nat) : Option (Nat × Nat) := do
  let f ← fs[i]?
  some (f.offset, ← tSz Pr f.type)

noncomputable def cBuiltin (b : Builtin) (ts : List TypeId) (args : List Operand) : Option Ins := do
  let a ← cOpds Pr args
  match b, a with
  | .len, [x] => match Pr.underlying (← ts.head?) with
    | some .string => some (.lenS x)
    | some (.slice _) => some (.lenL x)
    | some (.map ..) => some (.lenM x)
    | some (.array n _) => some (.lenC n x)
    | some (.pointer a) => match Pr.underlying a with
      | some (.array n _) => some (.lenC n x)
      | _ => none
    | _ => none
  | .cap, [x] => match Pr.underlying (← ts.head?) with
    | some (.slice _) => some (.cap x)
    | _ => none
  | .append, [s, x] => match ts with
    | [t, u] => match Pr.underlying t, Pr.underlying u with
      | some (.slice e), some (.int _) => do some (.apz (← tEl Pr e) (← tZc Pr e) s x)
      | some (.slice e), some _ => do some (.app (← tEl Pr e) s x)
      | _, _ => none
    | [t] => match Pr.underlying t with
      | some (.slice e) => do some (.app (← tEl Pr e) s x)
      | _ => none
    | _ => none
  | .copy, [d, x] => match Pr.underlying (← ts.head?) with
    | some (.slice e) => do some (.cpy (← tSz Pr e) d x)
    | _ => none
  | .clear, [x] => match Pr.underlying (← ts.head?) with
    | some (.slice e) => do some (.clr (← tZc Pr e) x)
    | _ => none
  | .min, x :: r => some (.mn false x r)
  | .max, x :: r => some (.mn true x r)
  | .delete, [m, k] => match Pr.underlying (← ts.head?) with
    | some (.map kt _) => do some (.del (← flatE Pr kt) m k)
    | _ => none
  | .recover, _ => some .rcv
  | .panic, [x] => some (.pan x)
  | _, _ => none

noncomputable def isConst : Operand → Bool
  | .const _ => true
  | _ => false

noncomputable def cOp (o : Op) : Option Ins := do
  match o with
  | .move x | .assign x => some (.mv (← cOpd Pr x))
  | .pick c a b => some (.pick (← cOpd Pr c) (← cOpd Pr a) (← cOpd Pr b))
  | .alloc e => some (.new (← tZc Pr e))
  | .box _ x => some (.box (← cOpd Pr x))
  | .build t ps => match Pr.underlying t with
    | some (.struct fs) => if fs.toList.all (fun f => (tSz Pr f.type).isSome) then some (.bld (← tZc Pr t) (← cParts Pr (place Pr fs.toList) ps.toList)) else none
    | some (.array _ e) => let sz ← tSz Pr e; some (.bld (← tZc Pr t) (← cParts Pr (fun i => some (i * sz, sz)) ps.toList))
    | _ => none
  | .buildSlice t n ps => match Pr.underlying t with
    | some (.slice e) => do
      let sz ← tSz Pr e
      if n * sz > 100000 ∨ sz = 0 then none else
      some (.bsl (repl (← tZc Pr e) n) n (← cParts Pr (fun i => some (i * sz, sz)) ps.toList))
    | _ => none
  | .load t a => do if ← tAgg Pr t then some (.ldn (← tSz Pr t) (← cOpd Pr a)) else some (.ld1 (← cOpd Pr a))
  | .store t a x => do if ← tAgg Pr t then some (.stn (← tSz Pr t) (← cOpd Pr a) (← cOpd Pr x)) else if tSz Pr t = some 1 then some (.st1 (← cOpd Pr a) (← cOpd Pr x)) else none
  | .nilCheck x => some (.nck (← cOpd Pr x))
  | .binOp op t x y _ => do
    let a ← cOpd Pr x
    let b ← cOpd Pr y
    match Pr.underlying t, op with
    | some (.int _), _ | some .string, _ => some (.bin op a b)
    | some .bool, .eql | some (.struct _), .eql | some (.array _ _), .eql => if Pr.eqGuardType Pr.depth t then none else do some (.eqc (← flatE Pr t) false a b)
    | some .bool, .neq | some (.struct _), .neq | some (.array _ _), .neq => if Pr.eqGuardType Pr.depth t then none else do some (.eqc (← flatE Pr t) true a b)
    | some (.pointer _), .eql => some (.nul 0 false a b)
    | some (.pointer _), .neq => some (.nul 0 true a b)
    | some (.slice _), .eql => some (.nul 1 false a b)
    | some (.slice _), .neq => some (.nul 1 true a b)
    | some (.map ..), .eql => some (.nul 2 false a b)
    | some (.map ..), .neq => some (.nul 2 true a b)
    | some (.func ..), .eql => some (.nul 3 false a b)
    | some (.func ..), .neq => some (.nul 3 true a b)
    | some (.interface _), .eql => if isConst x || isConst y then some (.nul 4 false a b) else none
    | some (.interface _), .neq => if isConst x || isConst y then some (.nul 4 true a b) else none
    | _, _ => none
  | .unOp .neg _ x => some (.neg (← cOpd Pr x))
  | .unOp .not _ x => some (.not (← cOpd Pr x))
  | .convert s d x => match Pr.underlying s, Pr.underlying d with
    | some (.int _), some (.int k) => some (.cvi k (← cOpd Pr x))
    | some .string, some .string => some (.cvs (← cOpd Pr x))
    | some (.int _), some .string => some (.cvs (← cOpd Pr x))
    | some (.slice e), some .string => match Pr.underlying e with
      | some (.int .u8) => if tSz Pr e = some 1 then some (.cvb (← cOpd Pr x)) else none
      | _ => none
    | _, _ => none
  | .makeInterface t x => match Pr.underlying t with
    | some (.interface _) => none
    | some _ => some (.mki t (← cOpd Pr x))
    | none => none
  | .makeFunc (.func f) a b => some (.mkf (P.slot f) (← cOpds Pr a.toList) (← cOpds Pr b.toList))
  | .makeFunc (.via t ⟨[]⟩ f true) a ⟨[]⟩ => match Pr.underlying t with
    | some (.pointer _) => if a.toList.isEmpty then none else some (.mkf (P.slot f) (← cOpds Pr a.toList) [])
    | _ => none
  | .makeMap _ none => some .mkm
  | .makeMap t (some r) => match Pr.underlying t with
    | some (.map ..) => do some (.mkmr (← cOpd Pr r))
    | _ => none
  | .makeSlice t l c => match Pr.underlying t with
    | some (.slice e) => do
      let _ ← tEl Pr e
      some (.mks (← tZc Pr e) (← cOpd Pr l) (← cOpd Pr c))
    | _ => none
  | .slice t x lo hi mx => do
    let x ← cOpd Pr x
    let lo ← cOpt Pr lo
    let hi ← cOpt Pr hi
    let mx ← cOpt Pr mx
    if mx.isSome && hi.isNone then none else
    match Pr.underlying t with
    | some .string => if mx.isSome then none else some (.slt x lo hi)
    | some (.slice e) => some (.sls (← tSz Pr e) x lo hi mx)
    | some (.array n e) => some (.sla n (← tSz Pr e) x lo hi mx)
    | some (.pointer a) => match Pr.underlying a with
      | some (.array n e) => some (.sla n (← tSz Pr e) x lo hi mx)
      | _ => none
    | _ => none
  | .fieldAddr s x f => match Pr.underlying s with
    | some (.struct fs) => do
      let f ← fs[f]?
      if (← tSz Pr f.type) = 0 then none else some (.fa f.offset (← cOpd Pr x))
    | _ => none
  | .field t x f => match Pr.underlying t with
    | some (.struct fs) => do
      let f ← fs[f]?
      let n ← tSz Pr f.type
      if ← tAgg Pr f.type then some (.fldn f.offset n (← cOpd Pr x)) else some (.fld1 f.offset (← cOpd Pr x))
    | _ => none
  | .indexAddr t x i => match Pr.underlying t with
    | some (.slice e) => some (.ia (← tSz Pr e) (← cOpd Pr x) (← cOpd Pr i))
    | some (.array n e) => some (.iaa n (← tSz Pr e) (← cOpd Pr x) (← cOpd Pr i))
    | _ => none
  | .index t x i => match Pr.underlying t with
    | some .string => some (.ixs (← cOpd Pr x) (← cOpd Pr i))
    | some (.array n e) => some (.ixa n (← tSz Pr e) (← tAgg Pr e) (← cOpd Pr x) (← cOpd Pr i))
    | _ => none
  | .lookup t m k ok => match Pr.underlying t with
    | some (.map kt et) => do some (.lk (← flatE Pr kt) (← tZero Pr et) ok (← cOpd Pr m) (← cOpd Pr k))
    | _ => none
  | .mapUpdate t m k v | .insert t m k v => match Pr.underlying t with
    | some (.map kt _) => do some (.mu (← flatE Pr kt) (← cOpd Pr m) (← cOpd Pr k) (← cOpd Pr v))
    | _ => none
  | .mapEntry t m k => match Pr.underlying t with
    | some (.map kt et) => do some (.me (← flatE Pr kt) (← tZero Pr et) (← cOpd Pr m) (← cOpd Pr k))
    | _ => none
  | .entryStore _ m s v => some (.es (← cOpd Pr m) (← cOpd Pr s) (← cOpd Pr v))
  | .range t x => match Pr.underlying t with
    | some .string => some (.rg true (← cOpd Pr x))
    | some (.map ..) => some (.rg false (← cOpd Pr x))
    | _ => none
  | .next it s => some (.nx s (← cOpd Pr it))
  | .entry it => some (.en (← cOpd Pr it))
  | .typeAssert x _ a ok => match Pr.underlying a with
    | some (.interface _) => none
    | some _ => some (.ta a (← tZero Pr a) ok (← cOpd Pr x))
    | none => none
  | .extract t i => some (.ex i (← cOpd Pr t))
  | .call { callee := .value (.func f), args, .. } => some (.call (P.slot f) (← cOpds Pr args.toList))
  | .call { callee := .value x, args, .. } => some (.callv (← cOpd Pr x) (← cOpds Pr args.toList))
  | .call { callee := .builtin b, args, argTypes } => cBuiltin Pr b argTypes.toList args.toList
  | .defer { callee := .value f, args, .. } => some (.dfr (← cOpd Pr f) (← cOpds Pr args.toList))
  | .panic x => some (.pan (← cOpd Pr x))
  | _ => none

noncomputable def isChk : Ins → Bool
  | .chk _ _ => true
  | _ => false

noncomputable def cGI (n : Nat) (all : List Oper) (o : Oper) : Option GI := do
  let i ← cOp Pr o.op
  if isChk i then none else
  let g ← match o.guard with
    | none => some none
    | some (j, w) => do
      let q ← all[j]?
      let d ← q.dst
      some (some (P.slot d, w))
  match o.dst with
  | none => some ⟨g, none, i⟩
  | some d => if d < n then some ⟨g, some (P.slot d), i⟩ else none

noncomputable def cGIs (n : Nat) (all : List Oper) : List Oper → Option (List GI)
  | [] => some []
  | o :: r => match cGI Pr n all o, cGIs n all r with
    | some a, some b => some (a :: b)
    | _, _ => none

/-- the kinds of an operation in a region whose order is drawn: it only computes, it looks into memory, it makes a block, it acts -/
inductive Cl where | pure | look | made | acts
  deriving DecidableEq, Inhabited

noncomputable def clI : Ins → Cl
  | .mv _ | .pick .. | .bld .. | .nck _ | .bin .. | .nul .. | .eqc .. | .not _ | .neg _ | .cvi .. | .cvs _ | .mki .. | .mkf .. | .sls .. | .slt .. | .sla .. | .fa .. | .fld1 .. | .fldn ..
  | .ia .. | .iaa .. | .ixs .. | .ixa .. | .ta .. | .ex .. | .lenC .. | .lenS _ | .lenL _ | .cap _ | .mn .. => .pure
  | .ld1 _ | .ldn .. | .lk .. | .en _ | .cvb _ | .lenM _ => .look
  | .new _ | .box _ | .bsl .. | .mkm | .mkmr _ | .mks .. => .made
  | _ => .acts

noncomputable def madeOp : Op → Bool
  | .alloc _ | .box .. | .buildSlice .. | .makeMap .. | .makeSlice .. => true
  | _ => false

noncomputable def clO (o : Oper) (i : Ins) : Cl :=
  match o.op with
  | .assign _ => .acts
  | _ => if clI i == .made && !madeOp o.op then .acts else clI i

noncomputable def anc1 (acc : List Nat) (o : Oper) : Nat :=
  o.after.toList.foldl (fun s e => if Region.binds .any e then s ||| 2 ^ e.on ||| acc.getD e.on 0 else s) 0
noncomputable def ancL : List Oper → List Nat → List Nat
  | [], acc => acc
  | o :: r, acc => ancL r (acc ++ [anc1 acc o])

inductive PI where | ex (i : Nat) | ck (i : Nat)
  deriving Inhabited

/-- the temporaries that an operation names: its operands, its guard -/
noncomputable def reads (all : List Oper) (o : Oper) : List Nat :=
  (o.op.operands.toList.filterMap fun | .tmp t => some t | _ => none) ++
  (match o.guard with
   | some (j, _) => ((all[j]?).bind (·.dst)).toList
   | none => [])
noncomputable def names (all : List Oper) (o : Oper) : List Nat := o.dst.toList ++ reads all o

noncomputable def subB (a b : Nat) : Bool := Nat.beq (a &&& b) a

/-- nothing names the temporary that y writes but y itself and what comes behind y (or, where y acts, ahead of it) -/
noncomputable def dstOk (all : List Oper) (an : List Nat) (y : Nat) (o : Oper) (c : Cl) : Bool :=
  match o.dst with
  | none => true
  | some d =>
    (c == .acts || !(reads all o).contains d) &&
    all.zipIdx.all fun (x, i) => i == y || !(names all x).contains d || (an.getD i 0).testBit y || (c == .acts && (an.getD y 0).testBit i)

noncomputable def rdO : Opd → List P
  | .s p => [p]
  | .c _ => []
noncomputable def rdL : List Opd → List P
  | [] => []
  | x :: r => rdO x ++ rdL r
noncomputable def rdM : Option Opd → List P
  | none => []
  | some x => rdO x
noncomputable def rdP : List (Nat × Nat × Opd) → List P
  | [] => []
  | (_, _, x) :: r => rdO x ++ rdP r

/-- the temporaries that an instruction reads -/
noncomputable def insRd : Ins → List P
  | .mv x | .box x | .ld1 x | .ldn _ x | .nck x | .not x | .neg x | .cvi _ x | .cvs x | .cvb x | .mki _ x | .mkmr x | .fa _ x | .fld1 _ x | .fldn _ _ x | .rg _ x | .nx _ x | .en x
  | .ta _ _ _ x | .ex _ x | .lenC _ x | .lenS x | .lenL x | .lenM x | .cap x | .clr _ x | .pan x => rdO x
  | .pick a b c | .mu _ a b c | .es a b c => rdO a ++ (rdO b ++ rdO c)
  | .new _ | .mkm | .rcv => []
  | .bld _ ps | .bsl _ _ ps => rdP ps
  | .st1 a x | .stn _ a x | .bin _ a x | .nul _ _ a x | .eqc _ _ a x | .mks _ a x | .ia _ a x | .iaa _ _ a x | .ixs a x | .ixa _ _ _ a x | .lk _ _ _ a x | .me _ _ a x | .app _ a x | .apz _ _ a x | .cpy _ a x | .del _ a x => rdO a ++ rdO x
  | .mkf _ a b => rdL a ++ rdL b
  | .sls _ x lo hi mx | .sla _ _ x lo hi mx => rdO x ++ (rdM lo ++ (rdM hi ++ rdM mx))
  | .slt x lo hi => rdO x ++ (rdM lo ++ rdM hi)
  | .call _ l => rdL l
  | .callv f l | .dfr f l | .mn _ f l => rdO f ++ rdL l
  | .chk _ _ => []

/-- what an instruction names: what it reads, its guard, what it writes -/
noncomputable def giRd (g : GI) : List P := insRd g.ins ++ (match g.g with | some (p, _) => [p] | none => [])
noncomputable def giNm (g : GI) : List P := giRd g ++ (match g.d with | some d => [d] | none => [])

/-- dstOk, at the interpreter's side -/
noncomputable def dstOkG (gis : List GI) (an : List Nat) (y : Nat) (g : GI) (c : Cl) : Bool :=
  match g.d with
  | none => true
  | some d =>
    (c == .acts || !(giRd g).contains d) &&
    gis.zipIdx.all fun (x, i) => i == y || !(giNm x).contains d || (an.getD i 0).testBit y || (c == .acts && (an.getD y 0).testBit i)

/-- the plan is one: done: what has been done; open: what need not yet have been done by the machine; good: what of that is known to have its value still -/
noncomputable def planOk (n : Nat) (cl : List Cl) (an : List Nat) : List PI → (done opn good : Nat) → Bool
  | [], dn, op, gd => Nat.beq dn (2 ^ n - 1) && subB op gd
  | .ex i :: r, dn, op, gd =>
    Nat.blt i n && !dn.testBit i && subB (an.getD i 0) dn &&
    (match cl.getD i .acts with
     | .acts => subB op gd && ((List.range n).all fun x => dn.testBit x || x == i || (an.getD x 0).testBit i) &&
       (let op' := op ^^^ (op &&& an.getD i 0)
        let gd' := (List.range n).foldl (fun s x => if op'.testBit x && cl.getD x .acts != .look then s ||| 2 ^ x else s) 0
        planOk n cl an r (dn ||| 2 ^ i) op' gd')
     | _ => planOk n cl an r (dn ||| 2 ^ i) (op ||| 2 ^ i) (gd ||| 2 ^ i))
  | .ck i :: r, dn, op, gd => Nat.blt i n && op.testBit i && planOk n cl an r dn op (gd ||| 2 ^ i)

noncomputable def idx (i : Nat) : List Nat → Nat
  | [] => 0
  | a :: l => bif Nat.beq a i then 0 else idx i l + 1

/-- an order that keeps the edges of a mode -/
noncomputable def ordOf (md : Region.Mode) (all : List Oper) : Nat → List Nat → List Nat
  | 0, acc => acc
  | k + 1, acc =>
    match (List.range all.length).find? (fun i => !acc.contains i && (match all[i]? with | some o => o.after.toList.all (fun e => !Region.binds md e || acc.contains e.on) | none => false)) with
    | some i => ordOf md all k (acc ++ [i])
    | none => acc

noncomputable def rankOk (md : Region.Mode) (all : List Oper) (ord : List Nat) : Bool :=
  all.zipIdx.all fun (o, i) => o.after.toList.all fun e => !Region.binds md e || (Nat.blt e.on all.length && Nat.blt (idx e.on ord) (idx i ord))

noncomputable def regOk (all : List Oper) (cl : List Cl) (an : List Nat) : Bool :=
  rankOk .any all (List.range all.length) && rankOk .text all (List.range all.length) && rankOk .gc all (ordOf .gc all all.length []) &&
  (all.zipIdx.all fun (o, i) => dstOk all an i o (cl.getD i .acts))

/-- first what only computes, looks or makes; then the next that acts, and a look again at what may be late -/
noncomputable def mkPlan (n : Nat) (cl : List Cl) (an : List Nat) : Nat → (done opn : Nat) → List PI
  | 0, _, _ => []
  | k + 1, dn, op =>
    match (List.range n).find? (fun i => !dn.testBit i && subB (an.getD i 0) dn && cl.getD i .acts != .acts) with
    | some i => .ex i :: mkPlan n cl an k (dn ||| 2 ^ i) (op ||| 2 ^ i)
    | none => match (List.range n).find? (fun i => !dn.testBit i && subB (an.getD i 0) dn) with
      | some e =>
        let op' := op ^^^ (op &&& an.getD e 0)
        .ex e :: (((List.range n).filter fun x => op'.testBit x && cl.getD x .acts == .look).map PI.ck ++ mkPlan n cl an k (dn ||| 2 ^ e) op')
      | none => []

noncomputable def cPI (gis : List GI) : List PI → Option (List GI)
  | [] => some []
  | .ex i :: r => match gis[i]?, cPI gis r with
    | some g, some l => some (g :: l)
    | _, _ => none
  | .ck i :: r => match gis[i]?, cPI gis r with
    | some ⟨g, some d, x⟩, some l => some (⟨g, none, .chk x d⟩ :: l)
    | _, _ => none

noncomputable def cls (all : List Oper) (gis : List GI) : List Cl := (all.zip gis).map fun (o, g) => clO o g.ins

/-- what does not act writes no result of the function -/
noncomputable def noRes (rs : List Nat) (all : List Oper) (cl : List Cl) : Bool :=
  (all.zip cl).all fun (o, c) => c == .acts || (match o.dst with | some d => !rs.contains d | none => true)

noncomputable def cDrawn (n : Nat) (rs : List Nat) (all : List Oper) : Option (List GI) := do
  let gis ← cGIs Pr n all all
  let cl := cls all gis
  let an := ancL all []
  let pl := mkPlan all.length cl an (2 * all.length) 0 0
  if regOk all cl an && (gis.zipIdx.all fun (g, i) => dstOkG gis an i g (cl.getD i .acts)) && noRes rs all cl && planOk all.length cl an pl 0 0 0 then cPI gis pl else none

noncomputable def cCode (n : Nat) (rs : List Nat) : Code → Option CC
  | .skip => some .skip
  | .region _ ops d => (if d then cDrawn Pr n rs ops.toList else cGIs Pr n ops.toList ops.toList).map .reg
  | .seq a b => match cCode n rs a, cCode n rs b with
    | some a, some b => some (.seq a b)
    | _, _ => none
  | .cond c a b => match cOpd Pr c, cCode n rs a, cCode n rs b with
    | some c, some a, some b => some (.cond c a b)
    | _, _, _ => none
  | .block id c => (cCode n rs c).map (.block id)
  | .loop c => (cCode n rs c).map .loop
  | .rangeFunc f ps a b => match cOpd Pr f, cCode n rs a, cCode n rs b with
    | some f, some a, some b => if ps.toList.all (Nat.blt · n) then some (.rf f (ps.toList.map P.slot) a b) else none
    | _, _, _ => none
  | .exit id => some (.exit id)
  | .ret => some .ret
  | .scope c => (cCode n rs c).map .scope
  | .label l => some (.label l)
  | .goto l => some (.goto l)
  | .refuse _ => some .bad

noncomputable def cRes : List ResultVar → Option (List (P × Nat))
  | [] => some []
  | .tmp t :: r => (cRes r).map ((P.slot t, 0) :: ·)
  | .cell a t :: r => do
    let r ← cRes r
    let n ← tSz Pr t
    if ← tAgg Pr t then (if n = 1000000 then none else some ((P.slot a, n + 1) :: r)) else some ((P.slot a, 1000001) :: r)

noncomputable def resT : List ResultVar → List Nat
  | [] => []
  | .tmp t :: r => t :: resT r
  | .cell a _ :: r => a :: resT r

noncomputable def cFn (f : Func) : Option CFn := do
  if f.name == "runtime.NumGoroutine" then none else
  let b ← f.body
  some ⟨← cCode Pr f.ntmps (resT f.results.toList) b, ← cRes Pr f.results.toList⟩

end Go.Proofs.YtlklnffmhclioaaGreatDoor.Ev

