/- strings.Contains by the shelf's contract, as an answer that the interpreter may use. -/
import Derived.Test.YtlklnffmhclioaaGreatDoorData
import Derived.Test.YtlklnffmhclioaaGreatDoorVars
import Derived.Shelf.Strings.Search3
import Derived.Test.YtlklnffmhclioaaGreatDoorProg
import Derived.KernelRfl
namespace Go.Proofs.YtlklnffmhclioaaGreatDoor
open Go.Shelf
/-- the numbers that the library's functions, types and variables bear here -/
def ren : Ren where
  f := fun x => match x with
    | 144 => 397
    | 143 => 441
    | 219 => 466
    | 217 => 489
    | 225 => 490
    | 224 => 491
    | 267 => 492
    | 266 => 501
    | 314 => 502
    | n => n
  t := fun x => match x with
    | 46 => 337
    | 146 => 504
    | 51 => 23
    | n => n
  g := fun x => match x with
    | 1 => 6
    | n => n
theorem lays144 : Lays.n144 Tryz.prog ren where
  mixed := by kernel_rfl
  f143 := Tryz.func441.trans (congrArg some (by kernel_rfl))
  f144 := Tryz.func397.trans (congrArg some (by kernel_rfl))
  f217 := Tryz.func489.trans (congrArg some (by kernel_rfl))
  f219 := Tryz.func466.trans (congrArg some (by kernel_rfl))
  f224 := Tryz.func491.trans (congrArg some (by kernel_rfl))
  f225 := Tryz.func490.trans (congrArg some (by kernel_rfl))
  f266 := Tryz.func501.trans (congrArg some (by kernel_rfl))
  f267 := Tryz.func492.trans (congrArg some (by kernel_rfl))
  f314 := Tryz.func502.trans (congrArg some (by kernel_rfl))
  t3 := Tryz.underlying3
  a3 := Tryz.isAgg3
  z3 := Tryz.sizeOf3
  v3 := Tryz.zeroValue3
  t4 := Tryz.underlying4
  a4 := Tryz.isAgg4
  z4 := Tryz.sizeOf4
  v4 := Tryz.zeroValue4
  t5 := Tryz.underlying5
  a5 := Tryz.isAgg5
  z5 := Tryz.sizeOf5
  v5 := Tryz.zeroValue5
  t9 := Tryz.underlying9
  a9 := Tryz.isAgg9
  z9 := Tryz.sizeOf9
  v9 := Tryz.zeroValue9
  t46 := Tryz.underlying337
  a46 := Tryz.isAgg337
  z46 := Tryz.sizeOf337
  v46 := Tryz.zeroValue337
  t51 := Tryz.underlying23
  a51 := Tryz.isAgg23
  z51 := Tryz.sizeOf23
  v51 := Tryz.zeroValue23
  t146 := Tryz.underlying504
  a146 := Tryz.isAgg504
  z146 := Tryz.sizeOf504
  v146 := Tryz.zeroValue504
  g1 := by kernel_rfl
open Go.RowKit Go.Lib in
theorem contains_is (s sub : ByteArray) (m : Int) (w : World) (hs : s.size < 4294967281) (hm : w.cell? ⟨6, 0, none⟩ = some (.int .i64 m)) :
    Calls Tryz.prog 397 #[.string s, .string sub] w fun e w' => e = .returned (.bool (Lib.contains s.data.toList sub.data.toList)) ∧ w' = w := Any.strings_Contains lays144 s sub m w hs hm
end Go.Proofs.YtlklnffmhclioaaGreatDoor
namespace Go.Proofs.YtlklnffmhclioaaGreatDoor.Ev
open Go.RowKit Go.Proofs Go.Lib

theorem preL_eq : ∀ (b l : List UInt8), preL (b.map UInt8.toNat) (l.map UInt8.toNat) = b.isPrefixOf l
  | [], _ => by simp [preL]
  | _ :: _, [] => by simp [preL]
  | x :: b, y :: l => by
    have ih := preL_eq b l
    have hb : Nat.beq x.toNat y.toNat = (x == y) := by
      by_cases h : x = y
      · subst h; simp
      · have h1 : ¬ x.toNat = y.toNat := fun e => h (UInt8.toNat_inj.1 e)
        have h2 : (x == y) = false := by simpa using h
        rw [h2]
        cases hh : Nat.beq x.toNat y.toNat with
        | false => rfl
        | true => exact absurd (Nat.eq_of_beq_eq_true hh) h1
    show (bif Nat.beq x.toNat y.toNat then preL (b.map UInt8.toNat) (l.map UInt8.toNat) else false) = _
    rw [hb, ih]
    simp only [List.isPrefixOf]
    cases (x == y) <;> rfl

theorem inL_eq (b : List UInt8) : ∀ (a : List UInt8), inL (b.map UInt8.toNat) (a.map UInt8.toNat) = Lib.contains a b
  | [] => by
    show preL (b.map UInt8.toNat) ([] : List Nat) = _
    have := preL_eq b []
    simp only [List.map_nil] at this
    rw [this]
    unfold Lib.contains
    cases b <;> rfl
  | x :: a => by
    have ih := inL_eq b a
    show (bif preL (b.map UInt8.toNat) (x.toNat :: a.map UInt8.toNat) then true else inL (b.map UInt8.toNat) (a.map UInt8.toNat)) = _
    have hp := preL_eq b (x :: a)
    simp only [List.map_cons] at hp
    rw [hp, ih]
    unfold Lib.contains
    conv => rhs; unfold index
    cases hpre : b.isPrefixOf (x :: a) with
    | true => simp
    | false =>
      have hg := index_ge a b
      simp only [cond_false, Bool.false_eq_true, if_false]
      by_cases h1 : index a b = -1
      · simp [h1]
      · have h2 : (index a b == -1) = false := by simpa using h1
        rw [h2]
        simp only [Bool.false_eq_true, if_false]
        rw [decide_eq_true (show 0 ≤ index a b by omega), decide_eq_true (show 0 ≤ index a b + 1 by omega)]

theorem q397_is : q397 = P.slot 397 := (show P.slot 397 = q397 by kernel_rfl).symm
theorem mlName : (Tryz.prog.globals[6]?).map (·.name) = some "internal/bytealg.MaxLen" := by kernel_rfl
theorem body397 : Tryz.f397.body.isSome = true := by kernel_rfl
theorem name397 : (Tryz.f397.name == "runtime.NumGoroutine") = false := by kernel_rfl

/-- strings.Contains, by the shelf's contract -/
theorem orcC : OrcOk Tryz.prog exC := by
  intro p args h v hv
  unfold exC at hv
  cases hd : decide (p = q397) with
  | false => rw [hd] at hv; cases hv
  | true =>
    rw [hd] at hv
    simp only [cond_true] at hv
    have hp : p = q397 := of_decide_eq_true hd
    split at hv
    · rename_i a b
      generalize hb : Nat.blt (List.length a) 100000 = bb at hv
      cases bb with
      | false => cases hv
      | true =>
        simp only [cond_true, Option.some.injEq] at hv
        subst hv
        refine ⟨397, Tryz.f397, hp.trans q397_is, Tryz.func397, body397, beq_eq_false_iff_ne.1 name397, ?_⟩
        intro B w0 ρ w vs gl wr hvs
        obtain ⟨l⟩ := vs
        cases hvs with
        | cons h1 t1 =>
          cases t1 with
          | cons h2 t2 =>
            cases t2
            cases h1 with
            | str hs1 =>
              cases h2 with
              | str hs2 =>
                rename_i s sub
                obtain ⟨_, m, hm⟩ := wr.q1 6 mlName
                have hlen : s.size < 4294967281 := by
                  have e : (bytesA s).length = s.size := by show (s.data.toList.map UInt8.toNat).length = s.data.size; rw [List.length_map]; rfl
                  have : (List.length a) < 100000 := Nat.le_of_ble_eq_true hb
                  rw [← hs1] at this
                  omega
                refine (Go.Proofs.YtlklnffmhclioaaGreatDoor.contains_is s sub m w hlen hm).mono ?_
                rintro e w' ⟨rfl, rfl⟩
                refine ⟨_, ρ, rfl, ?_, wr, .refl ρ h⟩
                rw [← hs1, ← hs2]
                show V Tryz.prog ρ (.bool (inL (sub.data.toList.map UInt8.toNat) (s.data.toList.map UInt8.toNat))) _
                rw [inL_eq]
                exact .bool _
    · cases hv
end Go.Proofs.YtlklnffmhclioaaGreatDoor.Ev

