/- What the row's premises give: the variables, the argument's cells. -/
import Derived.Test.YtlklnffmhclioaaGreatDoorAsm
import Derived.Test.YtlklnffmhclioaaGreatDoorWalkE
import Derived.Test.YtlklnffmhclioaaGreatDoorRows
import Derived.Test.YtlklnffmhclioaaGreatDoorCards
import Derived.Test.YtlklnffmhclioaaGreatDoorTie
import Derived.ProofKit
import Derived.LaidMore
import Derived.OpenShut
import Derived.Stop.Joined
import Derived.Deep.Slices
import Derived.SevenTiedAt
import Derived.KernelRfl
namespace Go.Proofs.YtlklnffmhclioaaGreatDoor
open Go Go.ChangeShapes Go.WideShapes Go.ChangeAt Go.WideMaps Go.WideElems Go.RowKit

theorem own : ownKnob Tryz.prog.godebug = none := by kernel_rfl
theorem laidOut : laidOutB Tryz.prog = true := by kernel_rfl
theorem cells3 : Tryz.prog.cellsOf 3 = 1 := by kernel_rfl
theorem cells59 : Tryz.prog.cellsOf 29 = 5 := by kernel_rfl

/-- the calls' wrap, with what the row lists, and with the world's shape -/
theorem returnsInHanded_laid {H : Type} {enc : TypeId × Value → H} {a : Assume} {C : Checked} {os : Os} {f : FuncId} {fn : Func} {s : ChangeSpec} {conds : List PathCond} {apart fresh handsOn again : Bool} {X : World → Array Value → Prop}
    (hX : ∀ (w w' : World) (args : Array Value), w.heap = w'.heap → X w args → X w' args)
    (own : ownKnob C.prog.godebug = none) (started : os.Started) (noInit : C.prog.inits.idxOf? f = none) (hfn : C.prog.funcs[f]? = some fn)
    (witness : ∃ (w : World) (tape : Tape) (i : Input), w.os = os ∧ (w.forCall tape i).Shaped C.prog ∧ i.vars = [] ∧ Input.okWide C.prog (w.forCall tape i) .any w.heap.size f i ∧
      ((s.pre enc C.prog fn conds apart (w.forCall tape i).memory i.args ∧ X (w.forCall tape i).memory i.args) ∧ sizedMet enc C.prog fn (OpenSpec.ofChange s) apart (w.forCall tape i).memory i.args) ∧ a.holds C.prog (lone (Frame.enter C.prog f i.args .normal) [] (w.forCall tape i)))
    (contract : ∀ (W : World) (base : Nat) (args : Array Value) (ds gs : List (DataW H)) (before : List MemPlace),
      (∀ (j : Nat) t v, fn.params[j]? = some t → args[j]? = some v → Value.okWide C.prog W .any base t v) →
      DataW.Whole enc C.prog fn.params.toList s.vars apart W args.toList ds gs before →
      X W args → W.ShapedOpen C.prog →
      Calls C.prog f args W fun e W' => ∃ v, e = .returned v ∧ s.post enc C.prog fn apart fresh handsOn again W args v W') :
    ReturnsInHanded a C os f .any (fun w args => (s.pre enc C.prog fn conds apart w args ∧ X w args) ∧ sizedMet enc C.prog fn (OpenSpec.ofChange s) apart w args) (s.post enc C.prog fn apart fresh handsOn again) := by
  refine returnsInHanded_of_calls own started noInit witness ?_
  intro w tape i _ hsh _ hok hpre hholds
  obtain ⟨_, _, _, fn', hfn', _, _, _, _, hval⟩ := hok
  have e : fn' = fn := Option.some.inj (hfn'.symm.trans hfn)
  subst e
  obtain ⟨⟨⟨ds, gs, before, hw, hc⟩, hx⟩, hz⟩ := hpre
  have hw' := DataW.Whole.of_heap (w' := w.forCall tape i) (by rfl) hw
  refine (contract (w.forCall tape i) w.heap.size i.args ds gs before hval hw' (hX _ _ _ (by rfl) hx) hsh).mono fun e W' ⟨v, he, hp⟩ => ?_
  subst he
  exact ChangeSpec.post_blind hp

abbrev laidL : List (String × DataW Unit) := Rows.ledgerZeroRow.laid

set_option maxRecDepth 100000 in
theorem door_met (os : Os) (args : Array Value) : laidMetH Tryz.prog laidL ((World.doorLaid Tryz.prog 400 os).forCall (fun _ _ => 0) ⟨#[], args, []⟩).memory :=
  laidMetH_of_parts3 (fuel := 8) (laidMet_of_run' 8 (by kernel_rfl) (by kernel_rfl)) (by kernel_rfl) (by kernel_rfl)

theorem ml_only : ∀ g : Nat, (Tryz.prog.globals[g]?).map (fun x : Global => x.name) = some "internal/bytealg.MaxLen" → g = 6 := by
  have key : ∀ g : Nat, ((Tryz.prog.globals[g]?).map (fun x : Global => x.name) == some "internal/bytealg.MaxLen") = false → (Tryz.prog.globals[g]?).map (fun x : Global => x.name) ≠ some "internal/bytealg.MaxLen" := fun g h => beq_eq_false_iff_ne.1 h
  intro g hg
  match g, hg with
  | 0, hg => exact absurd hg (key 0 (by kernel_rfl))
  | 1, hg => exact absurd hg (key 1 (by kernel_rfl))
  | 2, hg => exact absurd hg (key 2 (by kernel_rfl))
  | 3, hg => exact absurd hg (key 3 (by kernel_rfl))
  | 4, hg => exact absurd hg (key 4 (by kernel_rfl))
  | 5, hg => exact absurd hg (key 5 (by kernel_rfl))
  | 6, _ => rfl
  | g + 7, hg =>
    have : Tryz.prog.globals[g + 7]? = none := Array.getElem?_eq_none (by rw [Go.Proofs.YtlklnffmhclioaaGreatDoor.Ev.gsz]; omega)
    rw [this] at hg
    cases hg

theorem ml_cell {W : World} (h : W.ShapedOpen Tryz.prog) : ∃ m, W.cell? ⟨6, 0, none⟩ = some (.int .i64 m) :=
  cell_of_shapedOpen_int (g := 6) (t := 3) (zero := #[.int .i64 0]) h (by rw [Go.Proofs.YtlklnffmhclioaaGreatDoor.Ev.gsz]; omega) (by kernel_rfl) rfl (by kernel_rfl) (by kernel_rfl) Tryz.underlying3

theorem sane_at {W : World} (hL : laidMetH Tryz.prog laidL W) (hS : W.ShapedOpen Tryz.prog) : Calls Tryz.prog 4 #[] W fun e w' => e = .returned (.bool true) ∧ Below W.heap.size W w' := by
  obtain ⟨m, hm⟩ := ml_cell hS
  have hsz : 6 < W.heap.size := by
    rcases Nat.lt_or_ge 6 W.heap.size with h | h
    · exact h
    · simp only [World.cell?, Array.getElem?_eq_none h] at hm
      cases hm
  rw [MakeChecks.laidMetH_plain _ _ _ (by kernel_rfl)] at hL
  obtain ⟨ps, hv, _, _⟩ := hL
  refine Go.Proofs.YtlklnffmhclioaaGreatDoor.Ev.sane_calls (by rw [Go.Proofs.YtlklnffmhclioaaGreatDoor.Ev.gsz]; omega) (fun g hg => ?_) (fun p cs hp => ?_)
  · obtain rfl := ml_only g hg
    exact ⟨hsz, m, hm⟩
  · unfold Go.Proofs.YtlklnffmhclioaaGreatDoor.Ev.glM at hp
    simp only [List.mem_cons, Prod.mk.injEq, List.not_mem_nil, or_false] at hp
    rcases hp with ⟨rfl, rfl⟩ | ⟨rfl, rfl⟩ | ⟨rfl, rfl⟩ | ⟨rfl, rfl⟩ | ⟨rfl, rfl⟩ | ⟨rfl, rfl⟩
    · have e : (Go.Proofs.YtlklnffmhclioaaGreatDoor.Ev.q0).toNat = 0 := by kernel_rfl
      rw [e, Go.Proofs.YtlklnffmhclioaaGreatDoor.Ev.gsz]
      exact ⟨by omega, fun ρ => Go.Proofs.YtlklnffmhclioaaGreatDoor.Ev.globO (n := "fasti/facts.rows") (d := Rows.laid_fasti_facts_rows) hv (by simp [laidL, Rows.ledgerZeroRow]) (t := 262) (by kernel_rfl) (by kernel_rfl) (by kernel_rfl)⟩
    · have e : (Go.Proofs.YtlklnffmhclioaaGreatDoor.Ev.q1).toNat = 1 := by kernel_rfl
      rw [e, Go.Proofs.YtlklnffmhclioaaGreatDoor.Ev.gsz]
      exact ⟨by omega, fun ρ => Go.Proofs.YtlklnffmhclioaaGreatDoor.Ev.globO (n := "fasti/planner.none") (d := Rows.laid_fasti_planner_none) hv (by simp [laidL, Rows.ledgerZeroRow]) (t := 132) (by kernel_rfl) (by kernel_rfl) (by kernel_rfl)⟩
    · have e : (Go.Proofs.YtlklnffmhclioaaGreatDoor.Ev.q2).toNat = 2 := by kernel_rfl
      rw [e, Go.Proofs.YtlklnffmhclioaaGreatDoor.Ev.gsz]
      exact ⟨by omega, fun ρ => Go.Proofs.YtlklnffmhclioaaGreatDoor.Ev.globO (n := "fasti/days.lengths") (d := Rows.laid_fasti_days_lengths) hv (by simp [laidL, Rows.ledgerZeroRow]) (t := 305) (by kernel_rfl) (by kernel_rfl) (by kernel_rfl)⟩
    · have e : (Go.Proofs.YtlklnffmhclioaaGreatDoor.Ev.q3).toNat = 3 := by kernel_rfl
      rw [e, Go.Proofs.YtlklnffmhclioaaGreatDoor.Ev.gsz]
      exact ⟨by omega, fun ρ => Go.Proofs.YtlklnffmhclioaaGreatDoor.Ev.globO (n := "internal/strconv.uint64pow10") (d := Rows.laid_internal_strconv_uint64pow10) hv (by simp [laidL, Rows.ledgerZeroRow]) (t := 579) (by kernel_rfl) (by kernel_rfl) (by kernel_rfl)⟩
    · have e : (Go.Proofs.YtlklnffmhclioaaGreatDoor.Ev.q4).toNat = 4 := by kernel_rfl
      rw [e, Go.Proofs.YtlklnffmhclioaaGreatDoor.Ev.gsz]
      exact ⟨by omega, fun ρ => Go.Proofs.YtlklnffmhclioaaGreatDoor.Ev.globO (n := "math/bits.deBruijn32tab") (d := Rows.laid_math_bits_deBruijn32tab) hv (by simp [laidL, Rows.ledgerZeroRow]) (t := 618) (by kernel_rfl) (by kernel_rfl) (by kernel_rfl)⟩
    · have e : (Go.Proofs.YtlklnffmhclioaaGreatDoor.Ev.q5).toNat = 5 := by kernel_rfl
      rw [e, Go.Proofs.YtlklnffmhclioaaGreatDoor.Ev.gsz]
      exact ⟨by omega, fun ρ => Go.Proofs.YtlklnffmhclioaaGreatDoor.Ev.globO (n := "math/bits.deBruijn64tab") (d := Rows.laid_math_bits_deBruijn64tab) hv (by simp [laidL, Rows.ledgerZeroRow]) (t := 619) (by kernel_rfl) (by kernel_rfl) (by kernel_rfl)⟩

/-- five numbers -/
theorem entry_cells {H : Type} {enc : TypeId × Value → H} {W : World} {base : Nat} {sp : Nat → Bool} {held : Bool} {fuel : Nat} {cs : List Value} {x : DataW H × List MemPlace} (h : DataW.trod enc Tryz.prog W base sp held fuel 29 cs = some x) (k : Nat) (hk : k < 5) : ∃ z, cs[k]? = some (.int .i64 z) := by
  obtain ⟨xs, n, _, _, _, hxs, hf⟩ := DataW.trod_struct Tryz.underlying29 h
  have go : ∀ (f : Field), (#[{ name := "No", type := 3, offset := 0, embedded := false, tag := "", pkgPath := "", byteOffset := 0 },
        { name := "From", type := 3, offset := 1, embedded := false, tag := "", pkgPath := "", byteOffset := 8 },
        { name := "To", type := 3, offset := 2, embedded := false, tag := "", pkgPath := "", byteOffset := 16 },
        { name := "Amount", type := 3, offset := 3, embedded := false, tag := "", pkgPath := "", byteOffset := 24 },
        { name := "Why", type := 3, offset := 4, embedded := false, tag := "", pkgPath := "", byteOffset := 32 }] : Array Field)[k]? = some f → f.type = 3 → f.offset = k → ∃ z, cs[k]? = some (.int .i64 z) := by
    intro f hfk ht ho
    have h1 := hf k f hfk
    have hx : ∃ y, xs[k]? = some y := ⟨xs[k]'(by rw [hxs]; exact hk), List.getElem?_eq_getElem _⟩
    obtain ⟨y, hy⟩ := hx
    rw [hy, ht, ho, cells3] at h1
    obtain ⟨z, hz, _⟩ := DataW.trod_int Tryz.underlying3 h1
    refine ⟨z, ?_⟩
    have : ((cs.drop k).take 1)[0]? = some (.int .i64 z) := by rw [hz]; rfl
    rw [List.getElem?_take, if_pos (by omega), List.getElem?_drop] at this
    simpa using this
  match k, hk with
  | 0, _ => exact go _ rfl rfl rfl
  | 1, _ => exact go _ rfl rfl rfl
  | 2, _ => exact go _ rfl rfl rfl
  | 3, _ => exact go _ rfl rfl rfl
  | 4, _ => exact go _ rfl rfl rfl

set_option maxRecDepth 100000 in
/-- what an argument of this type reads as: numbers, five a place -/
theorem reads_of {H : Type} {enc : TypeId × Value → H} {W : World} {base : Nat} {v : Value} {d : DataW H} {p : List MemPlace} (hval : Value.okWide Tryz.prog W .any base 22 v) (h : DataW.Trod enc Tryz.prog W 0 (fun _ => true) true 22 v d p) :
    ∃ a len cap E, v = .slice a len cap ∧ Reads E (.slice a len cap) len W := by
  obtain ⟨a, len, cap, rfl⟩ := okWide_slice Tryz.underlying22 hval
  obtain ⟨fuel, hf⟩ := h
  rcases Deep.open_slice Tryz.underlying22 hf with ⟨hcs, _⟩ | ⟨a', len', cap', m, n, D, Pl, hcs, _, hl, hm, hmm, hx, hel⟩
  · simp [Value.cells] at hcs
    obtain ⟨rfl, rfl, rfl⟩ := hcs
    exact ⟨none, 0, 0, fun _ _ => 0, rfl, 0, .inl ⟨rfl, none, rfl⟩⟩
  · simp [Value.cells] at hcs
    obtain ⟨rfl, rfl, rfl⟩ := hcs
    have hlm : len ≤ m := by rw [hmm]; simp; omega
    have cell : ∀ j k, j < len → k < 5 → ∃ z, W.cell? ((a'.add (j * 5)).add k) = some (.int .i64 z) := by
      intro j k hj hk
      obtain ⟨cs', h1, h2⟩ := hel j (by omega)
      obtain ⟨z, hz⟩ := entry_cells h2 k hk
      rw [cells59] at h1
      unfold World.cells? at h1
      rw [if_pos (Nat.zero_le _)] at h1
      have := mapM_some_get h1 k k (by simp [hk])
      exact ⟨z, this.trans hz⟩
    refine ⟨some a', len, cap, fun j k => match W.cell? ((a'.add (j * 5)).add k) with | some (.int _ z) => z | _ => 0, rfl, cap, ?_⟩
    by_cases h0 : len = 0
    · subst h0
      exact .inl ⟨rfl, some a', rfl⟩
    · obtain ⟨b, off, spot⟩ := a'
      have hs : spot = none := by
        obtain ⟨z, hz⟩ := cell 0 0 (by omega) (by omega)
        simp only [Nat.zero_mul, Addr.add, if_true] at hz
        simp only [World.cell?] at hz
        split at hz
        · split at hz
          · cases hz
          · rename_i hh; cases spot with
            | none => rfl
            | some _ => simp at hh
        · cases hz
      subst hs
      have addr : ∀ j k, ((⟨b, off, none⟩ : Addr).add (j * 5)).add k = ⟨b, off + (j * 5 + k), none⟩ := by
        intro j k
        simp only [Addr.add]
        split <;> split <;> simp_all <;> omega
      refine .inr ⟨b, off, rfl, ?_, fun j k hj hk => ?_⟩
      · obtain ⟨z, hz⟩ := cell 0 0 (by omega) (by omega)
        rw [addr] at hz
        rcases Nat.lt_or_ge b W.heap.size with hh | hh
        · exact hh
        · simp only [World.cell?, Array.getElem?_eq_none hh] at hz
          cases hz
      · obtain ⟨z, hz⟩ := cell j k hj hk
        have hz' := hz
        rw [addr] at hz'
        show W.cell? ⟨b, off + (j * 5 + k), none⟩ = some (.int .i64 (match W.cell? (((⟨b, off, none⟩ : Addr).add (j * 5)).add k) with | some (.int _ z) => z | _ => 0))
        rw [hz, hz']

end Go.Proofs.YtlklnffmhclioaaGreatDoor

