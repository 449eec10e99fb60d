/- Each compiled operation does in the machine what the interpreter says. -/
import Derived.Test.YtlklnffmhclioaaGreatDoorEvB
import Derived.Laws.Strings
import Derived.IntWalk
import Derived.Laws.BytesString
import Derived.Laws.StructEq
namespace Go.Proofs.YtlklnffmhclioaaGreatDoor.Ev
open Go.RowKit

section
variable {Pr : Program} {ρ : En}

theorem bytesA_eq (s : ByteArray) : bytesA s = s.data.toList.map UInt8.toNat := rfl

mutual
theorem ofV_sound : ∀ (k : Nat) {v : Value} {a : AV}, ofV k v = some a → V Pr ρ a v
  | 0, v, a, h => by simp [ofV] at h
  | k + 1, v, a, h => by
    unfold ofV at h
    split at h <;> try (simp at h; done)
    · cases h; exact .bool _
    · cases h; exact .int _ _
    · cases h; exact .str rfl
    · cases h; exact .ptr0
    · cases h; exact .sl0
    · cases h; exact .map0
    · cases h; exact .fn0
    · cases h; exact .iface0
    · rename_i cs
      split at h
      · rename_i h1
        cases hs : ofVs k cs.toList with
        | none => rw [hs] at h; cases h
        | some l =>
          rw [hs] at h; cases h
          exact .agg (ofVs_sound k hs) (fun x hx => List.all_eq_true.1 h1 x hx)
      · cases h
    · rename_i cs
      cases hs : ofVs k cs.toList with
      | none => rw [hs] at h; cases h
      | some l =>
        rw [hs] at h; cases h
        exact .tup (ofVs_sound k hs)
    · cases h
      exact .fn rfl (.inl rfl) .nil .nil
    · rename_i t v
      cases hs : ofV k v with
      | none => rw [hs] at h; cases h
      | some l => rw [hs] at h; cases h; exact .iface (ofV_sound k hs)
theorem ofVs_sound : ∀ (k : Nat) {r : List Value} {l : List AV}, ofVs k r = some l → VL Pr ρ l r
  | 0, r, l, h => by simp [ofVs] at h
  | k + 1, [], l, h => by simp [ofVs] at h; subst h; exact .nil
  | k + 1, v :: r, l, h => by
    unfold ofVs at h
    split at h
    · rename_i a b h1 h2
      cases h
      exact .cons (ofV_sound k h1) (ofVs_sound k h2)
    · cases h
end

/-- the package's variables are known -/
def GL (Pr : Program) (ρ : En) : Prop := ∀ g, g < Pr.globals.size → ρ (P.slot g) = some ⟨g, 0, 0, 0⟩
theorem GL.mono {ρ' : En} (x : Ext ρ ρ') (h : GL Pr ρ) : GL Pr ρ' := fun g hg => x _ _ (h g hg)

/-- the operands that an operation names stand as the interpreter has them -/
def OP (Pr : Program) (ρ : En) (tm : T AV) (ev : Operand → Value) (x : Operand) : Prop :=
  ∀ y, cOpd Pr x = some y → V Pr ρ (opd tm y) (ev x)

theorem OP.of (hG : GL Pr ρ) {tm : T AV} {a : Act} (x : Operand) (h : ∀ t, x = .tmp t → V Pr ρ (T.get undefA (P.slot t) tm) (a.tmps.getD t undef)) : OP Pr ρ tm a.eval x := by
  intro y hy
  cases x with
  | tmp t => cases hy; exact h t rfl
  | const v =>
    simp only [cOpd] at hy
    cases hv : ofV 1000 v with
    | none => rw [hv] at hy; cases hy
    | some b => rw [hv] at hy; cases hy; exact ofV_sound 1000 hv
  | global g =>
    simp only [cOpd] at hy
    split at hy
    · rename_i hg; cases hy
      have := hG g hg
      exact V.ptr (off := 0) this
    · cases hy
  | func f => cases hy; exact .fn rfl (.inl rfl) .nil .nil

theorem opds_sound {tm : T AV} {ev : Operand → Value} : ∀ {l : List Operand} {r : List Opd}, cOpds Pr l = some r → (∀ x ∈ l, OP Pr ρ tm ev x) → VL Pr ρ (opds tm r) (l.map ev)
  | [], r, h, _ => by cases h; exact .nil
  | x :: l, r, h, k => by
    unfold cOpds at h
    split at h
    · rename_i a b h1 h2
      cases h
      exact .cons (k x (by simp) _ h1) (opds_sound h2 fun y hy => k y (by simp [hy]))
    · cases h
end

-- memory
theorem add_ad (e : BE) (i j : Nat) : (ad e i).add j = ad e (i + j) := by
  unfold Addr.add ad
  by_cases h : j = 0
  · simp [h]
  · simp [h, Nat.add_assoc]

theorem cell_ad {w : World} {e : BE} {c : Array Value} {t : TypeId} {fz : Nat × Nat} (h : w.heap[e.a]? = some (.cells c t fz)) (i : Nat) : w.cell? (ad e i) = c[e.off + i]? := by
  simp [World.cell?, ad, h]

theorem run_loadCellsFrom (P : Program) (w : World) (a : Addr) : ∀ (n i : Nat) (acc : Array Value) (vs : List Value), vs.length = n →
    (∀ k v, vs[k]? = some v → w.cell? (a.add (i + k)) = some v) → (loadCellsFrom a i n acc).run P w = .ok (acc ++ vs.toArray) w
  | 0, i, acc, vs, hl, _ => by
    have : vs = [] := by simpa using hl
    subst this; simp [loadCellsFrom]
  | n + 1, i, acc, [], hl, _ => by simp at hl
  | n + 1, i, acc, v :: vs, hl, h => by
    have h0 := h 0 v rfl
    simp only [Nat.add_zero] at h0
    simp only [loadCellsFrom, Sem.run_bind, run_load, h0, Result.andThen_ok]
    rw [run_loadCellsFrom P w a n (i + 1) (acc.push v) vs (by simpa using hl) (fun k u hk => by
      have := h (k + 1) u (by simpa using hk)
      rw [show i + 1 + k = i + (k + 1) from by omega]; exact this)]
    congr 1
    apply Array.ext'
    simp

theorem run_loadCells {P : Program} {w : World} {a : Addr} {vs : List Value} (h : ∀ (k : Nat) (v : Value), vs[k]? = some v → w.cell? (a.add k) = some v) :
    (loadCells a vs.length).run P w = .ok vs.toArray w := by
  have := run_loadCellsFrom P w a vs.length 0 #[] vs rfl (fun k v hk => by simpa using h k v hk)
  simpa [loadCells] using this

/-- a row of cells is overwritten -/
theorem run_storeCells (P : Program) (e : BE) (o : Nat) : ∀ (vs : List Value) (i : Nat) (w : World) (c : Array Value) (t : TypeId) (fz : Nat × Nat),
    w.heap[e.a]? = some (.cells c t fz) → (∀ v ∈ vs, v.oneCell' = true) → (∀ k, k < c.size → ¬ (fz.1 ≤ k ∧ k < fz.2)) → e.off + (o + i) + vs.length ≤ c.size →
    ∃ w' c', (storeCells (ad e o) vs i).run P w = .ok () w' ∧ w'.heap[e.a]? = some (.cells c' t fz) ∧ c'.size = c.size ∧
      (∀ k, c'[k]? = if e.off + (o + i) ≤ k ∧ k < e.off + (o + i) + vs.length then vs[k - (e.off + (o + i))]? else c[k]?) ∧
      (∀ b, b ≠ e.a → w'.heap[b]? = w.heap[b]?) ∧ w'.heap.size = w.heap.size ∧ w'.os = w.os ∧ w'.tape = w.tape ∧ w'.output = w.output
  | [], i, w, c, t, fz, h, _, _, _ => ⟨w, c, by simp [storeCells], h, rfl, fun k => by
      rw [if_neg (by rintro ⟨q1, q2⟩; simp only [List.length_nil] at q2; omega)], fun _ _ => rfl, rfl, rfl, rfl, rfl⟩
  | v :: vs, i, w, c, t, fz, h, h1, hf, hs => by
    have hc : w.cell? ((ad e o).add i) = some (c[e.off + (o + i)]'(by simp at hs; omega)) := by
      rw [add_ad, cell_ad h]; simp at hs; exact Array.getElem?_eq_getElem _
    have hfz : w.frozen? ((ad e o).add i) = false := by
      rw [add_ad]; simp only [World.frozen?, ad, h]
      have := hf (e.off + (o + i)) (by simp at hs; omega)
      by_cases g : fz.1 ≤ e.off + (o + i)
      · have g2 : ¬ (e.off + (o + i) < fz.2) := fun g2 => this ⟨g, g2⟩
        simp [g2]
      · simp [g]
    have hw : (w.setCell ((ad e o).add i) v).heap[e.a]? = some (.cells (c.setIfInBounds (e.off + (o + i)) v) t fz) := by
      rw [add_ad]; simp [World.setCell, ad, Array.getElem?_modify, h]
    obtain ⟨w', c', g1, g2, g3, g4, g5, g6, g7, g8, g9⟩ := run_storeCells P e o vs (i + 1) (w.setCell ((ad e o).add i) v) _ t fz hw (fun u hu => h1 u (by simp [hu]))
      (fun k hk => hf k (by simpa using hk)) (by simp at hs ⊢; omega)
    refine ⟨w', c', ?_, g2, by simpa using g3, ?_, ?_, ?_, ?_, ?_, ?_⟩
    · simp only [storeCells, Sem.run_bind]
      rw [run_store P w _ v .plain (h1 v (by simp))]
      simp only [hc, hfz, Bool.false_eq_true, if_false, Result.andThen_ok]
      exact g1
    · intro k
      rw [g4 k]
      by_cases hk0 : k = e.off + (o + i)
      · subst hk0
        rw [if_neg (by omega), if_pos (by simp)]
        simp at hs
        simp [show e.off + (o + i) < c.size from by omega]
      · by_cases hk : e.off + (o + i) < k ∧ k < e.off + (o + i) + (v :: vs).length
        · simp at hk
          rw [if_pos (by omega), if_pos (by simp; omega)]
          rw [show k - (e.off + (o + i)) = (k - (e.off + (o + (i + 1)))) + 1 from by omega]
          simp
        · simp at hk
          rw [if_neg (by omega), if_neg (by simp; omega)]
          simp [Array.getElem?_setIfInBounds_ne (Ne.symm hk0)]
    · intro b hb
      rw [g5 b hb]
      rw [add_ad]; simp only [World.setCell, ad, Array.getElem?_modify]; rw [if_neg (Ne.symm hb)]
    · rw [g6]; simp [World.setCell]
    · rw [g7]; rfl
    · rw [g8]; rfl
    · rw [g9]; rfl

end Go.Proofs.YtlklnffmhclioaaGreatDoor.Ev

namespace Go.Proofs.YtlklnffmhclioaaGreatDoor.Ev
open Go.RowKit

def Gives (r : Result Next) (v : Value) (w' : World) : Prop := r = .ok (.value v) w' ∨ (r = .ok .skip w' ∧ v = undef)

def Snd (Pr : Program) (B : Nat) (w0 : World) (ρ : En) (h : AH) (w : World) (r : Result Next) : IR → Prop
  | .v x => ∃ v, Gives r v w ∧ V Pr ρ x v
  | .vh x h' => ∃ ρ' v w', Gives r v w' ∧ V Pr ρ' x v ∧ WR Pr B w0 ρ' h' w' ∧ Evo ρ ρ' h h'
  | .call f args => ∃ f' vs, f = P.slot f' ∧ VL Pr ρ args vs.toList ∧ r = (callFunc f' vs).run Pr w
  | .callv fv args => ∃ v0 vs, V Pr ρ fv v0 ∧ VL Pr ρ args vs.toList ∧ r = (do let d ← Deferred.ofValue v0 vs; invoke d.target d.args : Sem Next).run Pr w
  | .defer d => ∃ cd, r = .ok (.defer cd) w ∧ DR Pr ρ d cd
  | .recover => r = .ok .recover w
  | .panic v => ∃ x, r = .halt (.panic x) w ∧ V Pr ρ v x
  | .br l => ∃ q ∈ l, ∃ v w', Gives r v w' ∧ V Pr ρ q.1 v ∧ WR Pr B w0 ρ q.2 w' ∧ Evo ρ ρ h q.2
  | .fail _ => True

section
variable {Pr : Program} {B : Nat} {w0 w : World} {ρ : En} {h : AH}

theorem Snd.val {r : Result Next} {x : AV} {v : Value} (hr : r = .ok (.value v) w) (hv : V Pr ρ x v) : Snd Pr B w0 ρ h w r (.v x) := ⟨v, .inl hr, hv⟩

theorem run_underlying {t : TypeId} {d : TypeDesc} (ht : Pr.underlying t = some d) : (underlying t).run Pr w = .ok d w := by simp [underlying, ht]
theorem run_sizeOf {t : TypeId} {n : Nat} (ht : tSz Pr t = some n) : (sizeOf t).run Pr w = .ok n w := by
  simp only [tSz, Option.map_eq_some_iff] at ht
  obtain ⟨i, h1, h2⟩ := ht
  simp [sizeOf, typeInfo, h1, h2]
theorem run_isAgg {t : TypeId} {b : Bool} (ht : tAgg Pr t = some b) : (isAgg t).run Pr w = .ok b w := by
  unfold tAgg at ht
  simp only [isAgg, Sem.run_bind, underlying, run_program, Result.andThen_ok]
  split at ht
  · rename_i h1; cases ht; simp [h1]
  · rename_i h1; cases ht; simp [h1]
  · rename_i d h1 h2 h3
    cases ht; simp only [h3]
    cases d <;> simp_all
  · cases ht
theorem run_zeroValue {t : TypeId} {a : AV} (ht : tZero Pr t = some a) : ∃ v, (zeroValue t).run Pr w = .ok v w ∧ ofV 1000 v = some a := by
  simp only [tZero, Option.bind_eq_some_iff] at ht
  obtain ⟨i, h1, v, h2, h3⟩ := ht
  exact ⟨v, by simp [zeroValue, typeInfo, h1, h2], h3⟩
theorem ofV_V {v : Value} {a : AV} (hv : ofV 1000 v = some a) : V Pr ρ a v := ofV_sound 1000 hv

/-- a cell of a block -/
theorem WR.cell (hw : WR Pr B w0 ρ h w) {p : P} {e : BE} (hp : ρ p = some e) {own : Bool} {cs : List AV} (hc : h.get p = .cells own cs) {i : Nat} {a : AV} (hi : cs[i]? = some a) :
    ∃ v, w.cell? (ad e i) = some v ∧ V Pr ρ a v ∧ v.oneCell' = true := by
  have := hw.obj p e hp
  rw [hc] at this
  obtain ⟨c, t, fz, h1, h2, _⟩ := this
  obtain ⟨v, g1, g2, g3⟩ := h2 i a hi
  exact ⟨v, by rw [cell_ad h1]; exact g1, g2, g3⟩

/-- cells of a block -/
theorem WR.cells (hw : WR Pr B w0 ρ h w) {p : P} {e : BE} (hp : ρ p = some e) {own : Bool} {cs : List AV} (hc : h.get p = .cells own cs) {off n : Nat} (hn : off + n ≤ cs.length) :
    ∃ vs : List Value, vs.length = n ∧ VL Pr ρ ((cs.drop off).take n) vs ∧ (∀ v ∈ vs, v.oneCell' = true) ∧ (∀ (k : Nat) (v : Value), vs[k]? = some v → w.cell? ((ad e off).add k) = some v) := by
  induction n with
  | zero => exact ⟨[], rfl, by simpa using VL.nil, by simp, by simp⟩
  | succ n ih =>
    obtain ⟨vs, g1, g2, g3, g4⟩ := ih (by omega)
    have hlt : off + n < cs.length := by omega
    obtain ⟨v, k1, k2, k3⟩ := hw.cell hp hc (i := off + n) (a := cs[off + n]) (by simp [hlt])
    refine ⟨vs ++ [v], by simp [g1], ?_, ?_, ?_⟩
    · have : (cs.drop off).take (n + 1) = (cs.drop off).take n ++ [cs[off + n]] := by
        rw [List.take_add_one]; congr 1; simp [hlt]
      rw [this]; exact g2.append (.cons k2 .nil)
    · intro u hu; simp at hu; rcases hu with hu | hu
      · exact g3 u hu
      · subst hu; exact k3
    · intro k u hk
      by_cases hkn : k < n
      · exact g4 k u (by rw [List.getElem?_append_left (by omega)] at hk; exact hk)
      · have hk' : k = n := by
          have := (List.getElem?_eq_some_iff.1 hk).1
          simp [g1] at this; omega
        subst hk'
        rw [List.getElem?_append_right (by omega)] at hk
        simp [g1] at hk; subst hk
        rw [add_ad]; exact k1

theorem slab_drop {n off : Nat} {cs l : List AV} (hs : slabL n (dropL off cs) = some l) (hn : n ≠ 0 ∨ off ≤ cs.length) : l = (cs.drop off).take n ∧ off + n ≤ cs.length := by
  obtain ⟨g1, g2⟩ := slabL_spec _ _ _ hs
  rw [dropL_eq] at g1 g2
  refine ⟨g1, ?_⟩
  simp at g2
  rcases hn with hn | hn <;> omega

-- loads
theorem snd_ld1 (hw : WR Pr B w0 ρ h w) {t : TypeId} (ht : tAgg Pr t = some false) {x : AV} {v : Value} (hx : V Pr ρ x v) :
    Snd Pr B w0 ρ h w ((do pure (.value (← Instr.loadAt t v)) : Sem Next).run Pr w) (iLd1 h x) := by
  cases hx with
  | ptr hp =>
    rename_i p off e
    unfold iLd1
    simp only
    cases hc : h.get p with
    | cells own cs =>
      simp only
      cases hn : nth cs off with
      | none => trivial
      | some a =>
        rw [nth_eq] at hn
        obtain ⟨u, g1, g2, _⟩ := hw.cell hp hc hn
        refine ⟨u, .inl ?_, g2⟩
        simp [Instr.loadAt, Instr.sureAddr, loadVar, run_isAgg ht, g1]
    | _ => trivial
  | _ => trivial

theorem run_loadVar_agg (hw : WR Pr B w0 ρ h w) {t : TypeId} {n : Nat} (ht : tAgg Pr t = some true) (hn : tSz Pr t = some n) {p : P} {e : BE} (hp : ρ p = some e) {own : Bool} {cs : List AV}
    (hc : h.get p = .cells own cs) {off : Nat} (hl : off + n ≤ cs.length) :
    ∃ vs : Array Value, (loadVar t (ad e off)).run Pr w = .ok (.agg vs) w ∧ VL Pr ρ ((cs.drop off).take n) vs.toList ∧ ∀ x ∈ vs.toList, x.oneCell' = true := by
  obtain ⟨vs, g1, g2, g3, g4⟩ := hw.cells hp hc hl
  refine ⟨vs.toArray, ?_, by simpa using g2, by simpa using g3⟩
  have := run_loadCells (P := Pr) g4
  rw [g1] at this
  simp [loadVar, run_isAgg ht, run_sizeOf hn, this]

theorem snd_ldn (hw : WR Pr B w0 ρ h w) {t : TypeId} {n : Nat} (ht : tAgg Pr t = some true) (hn : tSz Pr t = some n) {x : AV} {v : Value} (hx : V Pr ρ x v) :
    Snd Pr B w0 ρ h w ((do pure (.value (← Instr.loadAt t v)) : Sem Next).run Pr w) (iLdn h n x) := by
  cases hx with
  | ptr hp =>
    rename_i p off e
    unfold iLdn
    simp only
    cases hc : h.get p with
    | cells own cs =>
      simp only
      cases hs : slabL n (dropL off cs) with
      | none => trivial
      | some l =>
        simp only
        by_cases h0 : n ≠ 0 ∨ off ≤ cs.length
        · obtain ⟨g1, g2⟩ := slab_drop hs h0
          obtain ⟨vs, k1, k2, k3⟩ := run_loadVar_agg hw ht hn hp hc g2
          refine ⟨.agg vs, .inl ?_, ?_⟩
          · simp [Instr.loadAt, Instr.sureAddr, k1]
          · rw [g1]; exact .agg k2 k3
        · have h0 : n = 0 := by omega
          subst h0
          have : l = [] := by have : slabL 0 (dropL off cs) = some [] := rfl
                              rw [this] at hs; cases hs; rfl
          subst this
          refine ⟨.agg #[], .inl ?_, .agg .nil (by simp)⟩
          simp [Instr.loadAt, Instr.sureAddr, loadVar, run_isAgg ht, run_sizeOf hn, loadCells, loadCellsFrom]
    | _ => trivial
  | _ => trivial

theorem V.cellsA {x : AV} {v : Value} (hv : V Pr ρ x v) (ht : ∀ l, x ≠ .tup l) : VL Pr ρ (cellsA x) v.cells.toList ∧ ∀ u ∈ v.cells.toList, u.oneCell' = true := by
  cases hv with
  | agg h h1 => exact ⟨h, h1⟩
  | tup h => exact absurd rfl (ht _)
  | bool b => exact ⟨.cons (.bool b) .nil, by simp [Value.cells, Value.oneCell']⟩
  | int k n => exact ⟨.cons (.int k n) .nil, by simp [Value.cells, Value.oneCell']⟩
  | str h => exact ⟨.cons (.str h) .nil, by simp [Value.cells, Value.oneCell']⟩
  | ptr0 => exact ⟨.cons .ptr0 .nil, by simp [Value.cells, Value.oneCell']⟩
  | ptr h => exact ⟨.cons (.ptr h) .nil, by simp [Value.cells, Value.oneCell']⟩
  | sl0 => exact ⟨.cons .sl0 .nil, by simp [Value.cells, Value.oneCell']⟩
  | slE h hl => exact ⟨.cons (.slE h hl) .nil, by simp [Value.cells, Value.oneCell']⟩
  | slG h hs ho hl => exact ⟨.cons (.slG h hs ho hl) .nil, by simp [Value.cells, Value.oneCell']⟩
  | map0 => exact ⟨.cons .map0 .nil, by simp [Value.cells, Value.oneCell']⟩
  | map h => exact ⟨.cons (.map h) .nil, by simp [Value.cells, Value.oneCell']⟩
  | fn hp hf h1 h2 => exact ⟨.cons (.fn hp hf h1 h2) .nil, by simp [Value.cells, Value.oneCell']⟩
  | yld h => exact ⟨.cons (.yld h) .nil, by simp [Value.cells, Value.oneCell']⟩
  | fn0 => exact ⟨.cons .fn0 .nil, by simp [Value.cells, Value.oneCell']⟩
  | iface h => exact ⟨.cons (.iface h) .nil, by simp [Value.cells, Value.oneCell']⟩
  | iface0 => exact ⟨.cons .iface0 .nil, by simp [Value.cells, Value.oneCell']⟩

/-- the cells from off on have become others -/
theorem setAt_get {off : Nat} {l cs cs' : List AV} (hs : setAt off l cs = some cs') (i : Nat) : cs'[i]? = if off ≤ i ∧ i < off + l.length then l[i - off]? else cs[i]? := by
  obtain ⟨g1, g2⟩ := setAt_spec _ _ _ _ hs
  subst g1
  by_cases h1 : i < off
  · rw [if_neg (by omega), List.append_assoc, List.getElem?_append_left (by simp; omega)]
    simp [h1]
  · by_cases h2 : i < off + l.length
    · rw [if_pos (by omega), List.append_assoc, List.getElem?_append_right (by simp; omega), List.getElem?_append_left (by simp; omega)]
      congr 1
      simp; omega
    · rw [if_neg (by omega), List.getElem?_append_right (by simp; omega)]
      simp only [List.length_append, List.length_take, List.getElem?_drop]
      congr 1; omega

theorem WR.store (hw : WR Pr B w0 ρ h w) {p : P} {e : BE} (hp : ρ p = some e) {off : Nat} {l : List AV} {h' : AH} (hs : storeA h p off l = some h') {vs : List Value} (hv : VL Pr ρ l vs)
    (h1 : ∀ v ∈ vs, v.oneCell' = true) : ∃ w', (storeCells (ad e off) vs).run Pr w = .ok () w' ∧ WR Pr B w0 ρ h' w' ∧ Evo ρ ρ h h' := by
  unfold storeA at hs
  split at hs
  · rename_i cs hc
    split at hs
    · rename_i cs' hset
      cases hs
      have hO := hw.obj p e hp
      rw [hc] at hO
      obtain ⟨c, t, fz, o1, o2, o3, o4, o5, o6⟩ := hO
      obtain ⟨g1, g2⟩ := setAt_spec _ _ _ _ hset
      have hlen := hv.length
      have hl' : cs'.length = cs.length := by subst g1; simp; omega
      obtain ⟨w', c', k1, k2, k3, k4, k5, k6, k7, k8, k9⟩ := run_storeCells Pr e off vs 0 w c t fz o1 h1 (o3 rfl) (by omega)
      refine ⟨w', k1, hw.put hp (by rw [hc]; rfl) k5 k6 k7 k8 k9 ?_, hw.evo_set hp _⟩
      refine ⟨c', t, fz, k2, ?_, fun _ => by rw [k3]; exact o3 rfl, fun _ => by rw [k3]; exact o4 rfl, by rw [k3, hl']; exact o5, by rw [hl']; exact o6⟩
      intro i a hi
      rw [setAt_get hset] at hi
      rw [k4]
      by_cases hr : off ≤ i ∧ i < off + l.length
      · rw [if_pos hr] at hi
        rw [if_pos (by omega), show e.off + i - (e.off + (off + 0)) = i - off from by omega]
        obtain ⟨v, m1, m2⟩ := hv.get hi
        exact ⟨v, m1, m2, h1 v (List.mem_of_getElem? m1)⟩
      · rw [if_neg hr] at hi
        rw [if_neg (by omega)]
        exact o2 i a hi
    · cases hs
  · cases hs

theorem snd_st1 (hw : WR Pr B w0 ρ h w) {t : TypeId} (hn : tSz Pr t = some 1) {x a : AV} {v u : Value} (ha : V Pr ρ a u) (hx : V Pr ρ x v) :
    Snd Pr B w0 ρ h w ((do Instr.storeAt t u v; pure .skip : Sem Next).run Pr w) (iSt1 h a x) := by
  cases ha with
  | ptr hp =>
    rename_i p off e
    have key : ∀ (hnt : ∀ l, x ≠ .tup l) (hna : ∀ l, x ≠ .agg l), Snd Pr B w0 ρ h w ((do Instr.storeAt t (.pointer (some (ad e off))) v; pure .skip : Sem Next).run Pr w)
        (match storeA h p off [x] with | some h => .vh undefA h | none => .fail 9) := by
      intro hnt hna
      have hcs : cellsA x = [x] := by cases x <;> first | rfl | exact absurd rfl (hna _) | exact absurd rfl (hnt _)
      obtain ⟨k1, k2⟩ := hx.cellsA hnt
      rw [hcs] at k1
      cases hs : storeA h p off [x] with
      | none => trivial
      | some h' =>
        obtain ⟨w', g1, g2, g3⟩ := hw.store hp hs k1 k2
        refine ⟨ρ, undef, w', .inr ⟨?_, rfl⟩, V.undef, g2, g3⟩
        have hl := k1.length
        have hsz : v.cells.size = 1 := by simpa using hl.symm
        simp [Instr.storeAt, Instr.sureAddr, storeVar, run_sizeOf hn, hsz, g1]
    unfold iSt1
    cases x <;> first | trivial | exact key (by simp) (by simp)
  | _ => cases x <;> trivial

theorem snd_stn (hw : WR Pr B w0 ρ h w) {t : TypeId} {n : Nat} (hn : tSz Pr t = some n) {x a : AV} {v u : Value} (ha : V Pr ρ a u) (hx : V Pr ρ x v) :
    Snd Pr B w0 ρ h w ((do Instr.storeAt t u v; pure .skip : Sem Next).run Pr w) (iStn h n a x) := by
  cases ha with
  | ptr hp =>
    rename_i p off e
    cases hx with
    | agg hl h1 =>
      rename_i l cs
      unfold iStn
      simp only
      cases hb : Nat.beq l.length n with
      | false => trivial
      | true =>
        simp only [cond_true]
        cases hs : storeA h p off l with
        | none => trivial
        | some h' =>
          obtain ⟨w', g1, g2, g3⟩ := hw.store hp hs hl h1
          refine ⟨ρ, undef, w', .inr ⟨?_, rfl⟩, V.undef, g2, g3⟩
          have hsz : cs.size = n := by have := hl.length; have := Nat.eq_of_beq_eq_true hb; simp at *; omega
          simp [Instr.storeAt, Instr.sureAddr, storeVar, run_sizeOf hn, Value.cells, hsz, g1]
    | _ => trivial
  | _ => cases hx <;> trivial

-- new blocks
/-- a new row of cells -/
theorem WR.row (hw : WR Pr B w0 ρ h w) (t : TypeId) {l : List AV} {cs : Array Value} (hl : VL Pr ρ l cs.toList) (h1 : ∀ v ∈ cs.toList, v.oneCell' = true) :
    WR Pr B w0 (upd ρ h.nxt ⟨w.heap.size, 0, 0, 0⟩) (h.new (.cells true l)) { w with heap := w.heap.push (.cells cs t) } ∧ Evo ρ (upd ρ h.nxt ⟨w.heap.size, 0, 0, 0⟩) h (h.new (.cells true l)) := by
  refine ⟨hw.alloc rfl rfl rfl rfl rfl ?_, hw.evo_alloc _ _⟩
  have hlen := hl.length
  refine ⟨cs, t, (0, 0), rfl, ?_, fun _ i _ => by simp, fun _ => by simp, by simp at hlen ⊢; omega, by simp⟩
  intro i a hi
  obtain ⟨v, g1, g2⟩ := hl.get hi
  refine ⟨v, by simpa using g1, g2.mono (.upd _ (hw.fresh _ (Nat.le_refl _)).1), h1 v (List.mem_of_getElem? g1)⟩

/-- the zero value's cells -/
theorem run_zc {t : TypeId} {z : List AV} (hz : tZc Pr t = some z) : ∃ v n, (zeroValue t).run Pr w = .ok v w ∧ VL Pr ρ z v.cells.toList ∧ (∀ u ∈ v.cells.toList, u.oneCell' = true) ∧ tSz Pr t = some n ∧ z.length = n ∧ v.cells.size = n := by
  unfold tZc at hz
  split at hz
  · cases hz
  · rename_i z' n hnt h1 h2
    split at hz
    · rename_i hn
      cases hz
      obtain ⟨v, g1, g2⟩ := run_zeroValue (w := w) h1
      obtain ⟨k1, k2⟩ := (ofV_V (Pr := Pr) (ρ := ρ) g2).cellsA (fun l hl => hnt l hl)
      refine ⟨v, n, g1, k1, k2, h2, hn, ?_⟩
      have := k1.length
      rw [hn] at this
      simpa using this.symm
    · cases hz
  · cases hz

theorem snd_new (hw : WR Pr B w0 ρ h w) {t : TypeId} {z : List AV} (hz : tZc Pr t = some z) :
    Snd Pr B w0 ρ h w ((do pure (.value (← Instr.alloc t true (.tuple #[]))) : Sem Next).run Pr w) (iNew h z) := by
  obtain ⟨v, _, g1, k1, k2, _⟩ := run_zc (w := w) (ρ := ρ) hz
  obtain ⟨m1, m2⟩ := hw.row t k1 k2
  refine ⟨_, .pointer (some (ad ⟨w.heap.size, 0, 0, 0⟩ 0)), _, .inl ?_, .ptr (upd_same _ _ _), m1, m2⟩
  simp [Instr.alloc, g1, newVar, newRow, ad]

theorem snd_box (hw : WR Pr B w0 ρ h w) (t : TypeId) {x : AV} {v : Value} (hx : V Pr ρ x v) :
    Snd Pr B w0 ρ h w ((do pure (.value (← Instr.box t v)) : Sem Next).run Pr w) (iBox h x) := by
  unfold iBox
  split
  · trivial
  · rename_i a l hc
    have hnt : ∀ l, x ≠ .tup l := by intro l hh; subst hh; cases hc
    obtain ⟨k1, k2⟩ := hx.cellsA hnt
    rw [hc] at k1
    obtain ⟨m1, m2⟩ := hw.row t k1 k2
    refine ⟨_, .pointer (some (ad ⟨w.heap.size, 0, 0, 0⟩ 0)), _, .inl ?_, .ptr (upd_same _ _ _), m1, m2⟩
    simp [Instr.box, newVar, newRow, ad]

end
end Go.Proofs.YtlklnffmhclioaaGreatDoor.Ev

namespace Go.Proofs.YtlklnffmhclioaaGreatDoor.Ev
open Go.RowKit

-- numbers
theorem eqI_eq (a b : Int) : eqI a b = (a == b) := by
  cases a <;> cases b <;> rw [Bool.eq_iff_iff, beq_iff_eq] <;> simp [eqI] <;> omega
theorem ltI_eq (a b : Int) : ltI a b = decide (a < b) := by
  cases a <;> cases b <;> rw [Bool.eq_iff_iff, decide_eq_true_iff] <;> simp [ltI, Nat.blt] <;> omega
theorem leI_eq (a b : Int) : leI a b = decide (a ≤ b) := by
  cases a <;> cases b <;> rw [Bool.eq_iff_iff, decide_eq_true_iff] <;> simp [leI] <;> omega
theorem subN_eq (a b : Nat) : subN a b = (a : Int) - b := by
  unfold subN
  cases h : Nat.ble b a with
  | true =>
    have := Nat.le_of_ble_eq_true h
    show Int.ofNat (a - b) = _
    simp; omega
  | false =>
    have : ¬ b ≤ a := fun hh => by rw [Nat.ble_eq_true_of_le hh] at h; cases h
    show Int.negSucc (b - a - 1) = _
    omega
theorem addI_eq (a b : Int) : addI a b = a + b := by
  cases a <;> cases b <;> simp only [addI, subN_eq] <;> (try simp) <;> (try omega)
theorem negI_eq (a : Int) : negI a = -a := by
  cases a with
  | ofNat n => cases n with
    | zero => rfl
    | succ n => rfl
  | negSucc n => rfl
theorem subI_eq (a b : Int) : subI a b = a - b := by simp only [subI, addI_eq, negI_eq]; omega
theorem kEq_eq (a b : IntKind) : kEq a b = decide (a = b) := by cases a <;> cases b <;> rfl
theorem wrap_near (n : Int) (h1 : -9223372036854775808 ≤ n) (h2 : n ≤ 9223372036854775807) : IntKind.wrap .i64 n = n := by
  have h : IntKind.wrap .i64 n = if n % 18446744073709551616 ≥ 9223372036854775808 then n % 18446744073709551616 - 18446744073709551616 else n % 18446744073709551616 := by
    unfold IntKind.wrap
    simp [IntKind.bits, IntKind.signed]
  rw [h]; split <;> omega
theorem wrap_u8 (n : Nat) : IntKind.wrap .u8 (Int.ofNat n) = Int.ofNat (n % 256) := by
  unfold IntKind.wrap
  simp [IntKind.bits, IntKind.signed]
theorem wrapA_eq (k : IntKind) (n : Int) : wrapA k n = .int k (k.wrap n) := by
  unfold wrapA
  split
  · rename_i n
    cases h : Nat.ble n 9223372036854775807 with
    | false => rfl
    | true =>
      have hn := Nat.le_of_ble_eq_true h
      show AV.int .i64 (Int.ofNat n) = _
      rw [wrap_near (Int.ofNat n) (by have : Int.ofNat n = (n : Int) := rfl
                                      omega) (by have : Int.ofNat n = (n : Int) := rfl
                                                 omega)]
  · rename_i n
    cases h : Nat.ble n 9223372036854775807 with
    | false => rfl
    | true =>
      have hn := Nat.le_of_ble_eq_true h
      show AV.int .i64 (Int.negSucc n) = _
      rw [wrap_near (Int.negSucc n) (by omega) (by omega)]
  · rename_i n
    show AV.int .u8 (.ofNat (n % 256)) = _
    rw [wrap_u8]
  · rfl

-- bytes
theorem eqL_eq : ∀ (a b : List Nat), eqL a b = (a == b)
  | [], [] => rfl
  | [], b :: y => rfl
  | a :: x, [] => rfl
  | a :: x, b :: y => by
    unfold eqL
    rw [eqL_eq x y]
    cases h : Nat.beq a b with
    | true => have := Nat.eq_of_beq_eq_true h; subst this; simp
    | false =>
      have : a ≠ b := fun hh => by subst hh; rw [Nat.beq_refl] at h; cases h
      simp [this]
theorem toNat_inj8 {a b : UInt8} (h : a.toNat = b.toNat) : a = b := UInt8.toNat_inj.1 h
theorem eqL_map (a b : List UInt8) : eqL (a.map UInt8.toNat) (b.map UInt8.toNat) = (a == b) := by
  rw [eqL_eq, Bool.eq_iff_iff, beq_iff_eq, beq_iff_eq]
  exact List.map_inj_right (f := UInt8.toNat) (fun x y h => toNat_inj8 h)
theorem ltL_map : ∀ (a b : List UInt8), ltL (a.map UInt8.toNat) (b.map UInt8.toNat) = Op.bytesLess a b
  | [], [] => rfl
  | _ :: _, [] => rfl
  | [], _ :: _ => rfl
  | a :: x, b :: y => by
    simp only [List.map_cons, ltL, Op.bytesLess, ltL_map x y]
    have h1 : Nat.blt a.toNat b.toNat = decide (a < b) := by
      rw [Bool.eq_iff_iff, decide_eq_true_iff, UInt8.lt_iff_toNat_lt]; exact ⟨fun q => Nat.le_of_ble_eq_true q, fun q => Nat.ble_eq_true_of_le q⟩
    have h2 : Nat.beq a.toNat b.toNat = (a == b) := by
      rw [Bool.eq_iff_iff, beq_iff_eq]
      exact ⟨fun h => toNat_inj8 (Nat.eq_of_beq_eq_true h), fun h => by subst h; exact Nat.beq_refl _⟩
    rw [h1, h2]
    generalize decide (a < b) = p
    generalize (a == b) = q
    generalize Op.bytesLess x y = r
    cases p <;> cases q <;> cases r <;> rfl

section
variable {Pr : Program} {B : Nat} {w0 w : World} {ρ : En} {h : AH}

theorem bytesA_len (b : ByteArray) : (bytesA b).length = b.size := by
  rw [bytesA, List.length_map, Array.length_toList]; rfl

theorem run_eqGuard_int (op : BinOp) (t : TypeId) (x y : Operand) (k k' : IntKind) (a b : Int) : (eqGuard op t x y (.int k a) (.int k' b)).run Pr w = .ok () w := by
  unfold eqGuard
  cases op <;> simp
theorem run_eqGuard_str (op : BinOp) (t : TypeId) (x y : Operand) (a b : ByteArray) : (eqGuard op t x y (.string a) (.string b)).run Pr w = .ok () w := by
  unfold eqGuard
  cases op <;> simp

/-- a sum, a difference, a comparison .. of numbers -/
theorem run_binI (t : TypeId) (op : BinOp) (k k' : IntKind) (a b : Int) (hk : kEq k k' = true ∨ isShift op = true) :
    match binI op k a b with
    | .v x => ∃ v, (binOp op t (.int k a) (.int k' b)).run Pr w = .ok v w ∧ V Pr ρ x v
    | .fail _ => True
    | _ => False := by
  cases op
  case shl =>
    simp only [binI, ltI_eq]
    by_cases hb : b < Int.ofNat 0
    · rw [decide_eq_true hb]; trivial
    · simp only [hb, decide_false, cond_false]
      have hb' : ¬ b < 0 := hb
      exact ⟨_, by simp [binOp, Op.shift, hb'], .int _ _⟩
  case shr =>
    simp only [binI, ltI_eq]
    by_cases hb : b < Int.ofNat 0
    · rw [decide_eq_true hb]; trivial
    · simp only [hb, decide_false, cond_false]
      have hb' : ¬ b < 0 := hb
      exact ⟨_, by simp [binOp, Op.shift, hb'], .int _ _⟩
  all_goals (have hkk : k = k' := by simpa [kEq_eq, isShift] using hk)
  all_goals subst hkk
  case quo =>
    simp only [binI, eqI_eq]
    by_cases hb : b = 0
    · subst hb; simp
    · have hb1 : (b == Int.ofNat 0) = false := by simpa using hb
      simp only [hb1, cond_false, wrapA_eq]
      exact ⟨_, by simp [binOp, Op.intDiv, hb], .int _ _⟩
  case rem =>
    simp only [binI, eqI_eq]
    by_cases hb : b = 0
    · subst hb; simp
    · have hb1 : (b == Int.ofNat 0) = false := by simpa using hb
      simp only [hb1, cond_false]
      exact ⟨_, by simp [binOp, Op.intDiv, hb], .int _ _⟩
  all_goals simp only [binI, addI_eq, subI_eq, eqI_eq, ltI_eq, leI_eq, wrapA_eq]
  case add => exact ⟨_, by simp [binOp, Op.intArith], .int _ _⟩
  case sub => exact ⟨_, by simp [binOp, Op.intArith], .int _ _⟩
  case mul => exact ⟨.int k (k.wrap (a * b)), by simp [binOp, Op.intArith], .int _ _⟩
  case eql => exact ⟨_, by simp [binOp, Op.intCmp], .bool _⟩
  case neq => exact ⟨_, by simp [binOp, Op.intCmp, bne], .bool _⟩
  case lss => exact ⟨_, by simp [binOp, Op.intCmp], .bool _⟩
  case leq => exact ⟨_, by simp [binOp, Op.intCmp], .bool _⟩
  case gtr => exact ⟨_, by simp [binOp, Op.intCmp], .bool _⟩
  case geq => exact ⟨_, by simp [binOp, Op.intCmp], .bool _⟩
  case and => exact ⟨_, by simp [binOp, Op.intBits], .int _ _⟩
  case or => exact ⟨_, by simp [binOp, Op.intBits], .int _ _⟩
  case xor => exact ⟨_, by simp [binOp, Op.intBits], .int _ _⟩
  case andNot => exact ⟨_, by simp [binOp, Op.intBits], .int _ _⟩

theorem run_binS (t : TypeId) (op : BinOp) (a b : ByteArray) :
    match binS op (bytesA a) (bytesA b) with
    | .v x => ∃ v, (binOp op t (.string a) (.string b)).run Pr w = .ok v w ∧ V Pr ρ x v
    | .fail _ => True
    | _ => False := by
  have he : eqL (bytesA a) (bytesA b) = (a.toList == b.toList) := by rw [bytesA, bytesA, eqL_map, ByteArray.toList_eq, ByteArray.toList_eq]
  have hl : ltL (bytesA a) (bytesA b) = Op.bytesLess a.toList b.toList := by rw [bytesA, bytesA, ltL_map, ByteArray.toList_eq, ByteArray.toList_eq]
  have hlr : ltL (bytesA b) (bytesA a) = Op.bytesLess b.toList a.toList := by rw [bytesA, bytesA, ltL_map, ByteArray.toList_eq, ByteArray.toList_eq]
  have tri : ∀ x y : List UInt8, (Op.bytesLess x y || x == y) = !Op.bytesLess y x := by
    intro x
    induction x with
    | nil => intro y; cases y <;> simp [Op.bytesLess]
    | cons c x ih =>
      intro y
      cases y with
      | nil => simp [Op.bytesLess]
      | cons d y =>
        simp only [Op.bytesLess]
        have := ih y
        by_cases h1 : c < d
        · have h2 : ¬ d < c := fun h2 => by rw [UInt8.lt_iff_toNat_lt] at *; omega
          have h3 : (d == c) = false := by simp; intro h; subst h; rw [UInt8.lt_iff_toNat_lt] at h1; omega
          simp [h1, h2, h3]
        · by_cases h2 : d < c
          · have h3 : (c == d) = false := by simp; intro h; subst h; rw [UInt8.lt_iff_toNat_lt] at h2; omega
            have h4 : (d == c) = false := by simp; intro h; subst h; rw [UInt8.lt_iff_toNat_lt] at h2; omega
            have h5 : (c :: x == d :: y) = false := by simp; intro h; subst h; rw [UInt8.lt_iff_toNat_lt] at h2; omega
            simp [h1, h2, h3, h5]
          · have h3 : c = d := by
              apply toNat_inj8
              rw [UInt8.lt_iff_toNat_lt] at h1 h2; omega
            subst h3
            have h4 : (c :: x == c :: y) = (x == y) := by simp
            rw [h4]; simp [h1, this]
  cases op <;> simp only [binS, he, hl, hlr] <;> try trivial
  case add =>
    rw [bytesA_len, bytesA_len]
    cases hs : Nat.ble (Nat.add a.size b.size) 9223372036854775807 with
    | false => trivial
    | true =>
      have hle := Nat.le_of_ble_eq_true hs
      have hle' : a.size + b.size ≤ 9223372036854775807 := hle
      refine ⟨.string (a ++ b), ?_, .str (by simp [bytesA])⟩
      have : ¬ ((a.size + b.size : Nat) : Int) > IntKind.i64.max := by
        have : IntKind.i64.max = 9223372036854775807 := by decide
        rw [this]; omega
      simp only [binOp, Op.stringOp]
      rw [if_neg this]; rfl
  case eql => exact ⟨_, by simp [binOp, Op.stringOp], .bool _⟩
  case neq => exact ⟨_, by simp [binOp, Op.stringOp], .bool _⟩
  case lss => exact ⟨_, by simp [binOp, Op.stringOp], .bool _⟩
  case leq => exact ⟨_, by simp only [binOp, Op.stringOp, tri]; rfl, .bool _⟩
  case gtr => exact ⟨_, by simp only [binOp, Op.stringOp, tri, Bool.not_not]; rfl, .bool _⟩
  case geq => exact ⟨_, by simp [binOp, Op.stringOp], .bool _⟩

theorem snd_bin (op : BinOp) (t : TypeId) (x' y' : Operand) {x y : AV} {v u : Value} (hx : V Pr ρ x v) (hy : V Pr ρ y u) :
    Snd Pr B w0 ρ h w ((do pure (.value (← (do eqGuard op t x' y' v u; binOp op t v u))) : Sem Next).run Pr w) (iBin op x y) := by
  cases hx with
  | int k a =>
    cases hy with
    | int k' b =>
      have key : (kEq k k' = true ∨ isShift op = true) → Snd Pr B w0 ρ h w ((do pure (.value (← (do eqGuard op t x' y' (.int k a) (.int k' b); binOp op t (.int k a) (.int k' b)))) : Sem Next).run Pr w) (binI op k a b) := by
        intro hk
        have hs := run_binI (Pr := Pr) (w := w) (ρ := ρ) t op k k' a b hk
        cases hb : binI op k a b <;> rw [hb] at hs <;> try (exact hs.elim)
        · obtain ⟨r, g1, g2⟩ := hs
          refine ⟨r, .inl ?_, g2⟩
          simp [run_eqGuard_int, g1]
        · trivial
      simp only [iBin]
      cases h1 : kEq k k' with
      | true => simp only [cond_true]; exact key (.inl h1)
      | false =>
        simp only [cond_false]
        cases h2 : isShift op with
        | true => simp only [cond_true]; exact key (.inr h2)
        | false => trivial
    | _ => trivial
  | str hs =>
    rename_i s a
    cases hy with
    | str ht =>
      rename_i s' b
      subst hs; subst ht
      have hs := run_binS (Pr := Pr) (w := w) (ρ := ρ) t op a b
      simp only [iBin]
      cases hb : binS op (bytesA a) (bytesA b) <;> rw [hb] at hs <;> try (exact hs.elim)
      · obtain ⟨r, g1, g2⟩ := hs
        refine ⟨r, .inl ?_, g2⟩
        simp [run_eqGuard_str, g1]
      · trivial
    | _ => trivial
  | _ => cases hy <;> trivial

end
end Go.Proofs.YtlklnffmhclioaaGreatDoor.Ev

namespace Go.Proofs.YtlklnffmhclioaaGreatDoor.Ev
open Go.RowKit

section
variable {Pr : Program} {B : Nat} {w0 w : World} {ρ : En} {h : AH}

theorem snd_pick {c x y : AV} {cv v u : Value} (hc : V Pr ρ c cv) (hx : V Pr ρ x v) (hy : V Pr ρ y u) :
    Snd Pr B w0 ρ h w ((do pure (.value (if ← asBool cv then v else u)) : Sem Next).run Pr w) (iPick c x y) := by
  cases hc with
  | bool b =>
    cases b
    · exact ⟨u, .inl (by simp [asBool]), hy⟩
    · exact ⟨v, .inl (by simp [asBool]), hx⟩
  | _ => trivial

theorem snd_nck {ev : Operand → Value} {x' : Operand} {o : Oper} (ho : o.op = .nilCheck x') {x : AV} (hx : V Pr ρ x (ev x')) :
    Snd Pr B w0 ρ h w ((execOp ev o).run Pr w) (iNck x) := by
  unfold execOp
  rw [ho]
  simp only
  generalize ev x' = v at hx ⊢
  cases hx with
  | ptr hp => exact .val rfl (.ptr hp)
  | fn hp hf h1 h2 =>
    refine .val ?_ (.fn hp hf h1 h2)
    rcases hf with hf | ⟨-, -, t, u, hf, _⟩ <;> subst hf <;> rfl
  | yld hp => exact .val rfl (.yld hp)
  | _ => trivial

theorem snd_not {x : AV} {v : Value} (hx : V Pr ρ x v) : Snd Pr B w0 ρ h w ((do pure (.value (← Op.unary .not v)) : Sem Next).run Pr w) (iNot x) := by
  cases hx with
  | bool b => exact ⟨_, .inl (by simp [Op.unary]), .bool _⟩
  | _ => trivial
theorem snd_neg {x : AV} {v : Value} (hx : V Pr ρ x v) : Snd Pr B w0 ρ h w ((do pure (.value (← Op.unary .neg v)) : Sem Next).run Pr w) (iNeg x) := by
  cases hx with
  | int k n =>
    simp only [iNeg, wrapA_eq, negI_eq]
    exact ⟨_, .inl (by simp [Op.unary, Op.intArith]), .int _ _⟩
  | _ => trivial

theorem snd_cvi {s d : TypeId} {sd : TypeDesc} {k : IntKind} (hs : Pr.underlying s = some sd) (hd : Pr.underlying d = some (.int k)) {x : AV} {v : Value} (hx : V Pr ρ x v) :
    Snd Pr B w0 ρ h w ((do pure (.value (← convert s d v)) : Sem Next).run Pr w) (iCvi k x) := by
  cases hx with
  | int k' n =>
    simp only [iCvi, wrapA_eq]
    exact ⟨_, .inl (by simp [convert, underlying, hs, hd, Conv.intToInt]), .int _ _⟩
  | _ => trivial

theorem encode_small (n : Nat) (hn : n < 128) : Utf8.encode (Int.ofNat n) = ⟨#[UInt8.ofNat n]⟩ := by
  unfold Utf8.encode
  have h1 : Utf8.valid (Int.ofNat n) = true := by
    simp [Utf8.valid]; omega
  simp only [h1, if_true]
  have h2 : (Int.ofNat n).toNat = n := rfl
  rw [h2]
  simp [hn]

theorem snd_cvs {s d : TypeId} {sd : TypeDesc} (hs : Pr.underlying s = some sd) (hd : Pr.underlying d = some .string) {x : AV} {v : Value} (hx : V Pr ρ x v) :
    Snd Pr B w0 ρ h w ((do pure (.value (← convert s d v)) : Sem Next).run Pr w) (iCvs x) := by
  cases hx with
  | str hb => exact ⟨_, .inl (by simp [convert, underlying, hs, hd]), .str hb⟩
  | int k n =>
    unfold iCvs
    cases n with
    | ofNat n =>
      simp only
      cases hn : Nat.blt n 128 with
      | false => trivial
      | true =>
        have hlt : n < 128 := Nat.le_of_ble_eq_true hn
        refine ⟨_, .inl (by simp [convert, underlying, hs, hd, Conv.intToString]; rfl), .str ?_⟩
        have := encode_small n hlt
        show bytesA (Utf8.encode (Int.ofNat n)) = _
        rw [this]
        simp [bytesA]; omega
    | negSucc n => trivial
  | _ => trivial

theorem snd_mki {t : TypeId} {d : TypeDesc} (ht : Pr.underlying t = some d) (hni : ∀ ms, d ≠ .interface ms) {x : AV} {v : Value} (hx : V Pr ρ x v) :
    Snd Pr B w0 ρ h w ((do pure (.value (← Instr.makeInterface t v)) : Sem Next).run Pr w) (.v (.iface t x)) := by
  refine ⟨_, .inl ?_, .iface hx⟩
  simp only [Instr.makeInterface, Sem.run_bind, run_underlying ht, Result.andThen_ok]
  cases d <;> first | rfl | exact absurd rfl (hni _)

theorem snd_ia {t e : TypeId} {sz : Nat} (ht : Pr.underlying t = some (.slice e)) (hs : tSz Pr e = some sz) {x i : AV} {v u : Value} (hx : V Pr ρ x v) (hi : V Pr ρ i u) :
    Snd Pr B w0 ρ h w ((do pure (.value (← Instr.indexAt t v u)) : Sem Next).run Pr w) (iIa sz x i) := by
  cases hi with
  | int k n =>
    cases n with
    | ofNat n =>
      cases hx with
      | slE hp hl =>
        rename_i p alt off len c be
        simp only [iIa]
        cases hb : Nat.blt n len with
        | false => trivial
        | true =>
          have hlt : n < len := Nat.le_of_ble_eq_true hb
          refine ⟨_, .inl ?_, .ptr hp⟩
          simp [Instr.indexAt, asIntOf, underlying, ht, hlt, run_sizeOf hs, add_ad]
      | slG hp hsz ho hl =>
        rename_i p alt off len g sz' be
        simp only [iIa]
        cases hb : Nat.blt n len with
        | false => trivial
        | true =>
          have hlt : n < len := Nat.le_of_ble_eq_true hb
          have hne : ¬ be.cap = g := by omega
          refine ⟨_, .inl ?_, .ptr hp⟩
          simp [Instr.indexAt, asIntOf, underlying, ht, hlt, run_sizeOf hs, add_ad, hne]
      | _ => trivial
    | negSucc n => cases hx <;> trivial
  | _ => cases hx <;> trivial

theorem snd_iaa {t e : TypeId} {n sz : Nat} (ht : Pr.underlying t = some (.array n e)) (hs : tSz Pr e = some sz) {x i : AV} {v u : Value} (hx : V Pr ρ x v) (hi : V Pr ρ i u) :
    Snd Pr B w0 ρ h w ((do pure (.value (← Instr.indexAt t v u)) : Sem Next).run Pr w) (iIaa n sz x i) := by
  cases hi with
  | int k j =>
    cases j with
    | ofNat j =>
      cases hx with
      | ptr hp =>
        rename_i p off be
        simp only [iIaa]
        cases hb : Nat.blt j n with
        | false => trivial
        | true =>
          have hlt : j < n := Nat.le_of_ble_eq_true hb
          refine ⟨_, .inl ?_, .ptr hp⟩
          simp [Instr.indexAt, asIntOf, underlying, ht, hlt, run_sizeOf hs, add_ad, Instr.sureAddr]
      | _ => trivial
    | negSucc n => cases hx <;> trivial
  | _ => cases hx <;> trivial

theorem snd_fa {s : TypeId} {fs : Array Field} {j : Nat} {f : Field} {n : Nat} (ht : Pr.underlying s = some (.struct fs)) (hf : fs[j]? = some f) (hn : tSz Pr f.type = some n) (h0 : n ≠ 0)
    {x : AV} {v : Value} (hx : V Pr ρ x v) :
    Snd Pr B w0 ρ h w ((do pure (.value (← Instr.fieldAt s v j)) : Sem Next).run Pr w) (iFa f.offset x) := by
  cases hx with
  | ptr hp =>
    refine ⟨_, .inl ?_, .ptr hp⟩
    simp [Instr.fieldAt, underlying, ht, hf, Instr.sureAddr, fieldPlace, run_sizeOf hn, h0, add_ad]
  | _ => trivial

theorem nthN_eq : ∀ (l : List Nat) (n : Nat), nthN l n = l[n]?
  | [], n => by simp [nthN]
  | a :: l, 0 => rfl
  | a :: l, n + 1 => by simp [nthN, nthN_eq l n]

theorem snd_ixs {t : TypeId} (ht : Pr.underlying t = some .string) {x i : AV} {v u : Value} (hx : V Pr ρ x v) (hi : V Pr ρ i u) :
    Snd Pr B w0 ρ h w ((do pure (.value (← Instr.index t v u)) : Sem Next).run Pr w) (iIxs x i) := by
  cases hi with
  | int k n =>
    cases n with
    | ofNat n =>
      cases hx with
      | str hb =>
        rename_i s b
        simp only [iIxs, nthN_eq]
        cases hn : s[n]? with
        | none => trivial
        | some c =>
          subst hb
          simp only [bytesA, List.getElem?_map, Option.map_eq_some_iff] at hn
          obtain ⟨c8, h1, h2⟩ := hn
          subst h2
          have hlt : n < b.size := by
            have := (List.getElem?_eq_some_iff.1 h1).1; rw [Array.length_toList] at this; exact this
          have hb : b[n]? = some c8 := by
            have e1 : b[n]? = some (b[n]'hlt) := getElem?_pos b n hlt
            have e2 : b[n]'hlt = c8 := by
              have := (List.getElem?_eq_some_iff.1 h1).2
              rw [← this]; rfl
            rw [e1, e2]
          refine ⟨_, .inl ?_, .int _ _⟩
          simp [Instr.index, asIntOf, underlying, ht, hb]
      | _ => trivial
    | negSucc n => cases hx <;> trivial
  | _ => cases hx <;> trivial

theorem VL_part {l : List AV} {cs : Array Value} (hl : VL Pr ρ l cs.toList) (h1 : ∀ x ∈ cs.toList, x.oneCell' = true) {t : TypeId} {off n : Nat} {agg : Bool} (ht : tAgg Pr t = some agg)
    (hn : tSz Pr t = some n) :
    match partA agg off n l with
    | .v x => ∃ v, (part t cs off).run Pr w = .ok v w ∧ V Pr ρ x v
    | .fail _ => True
    | _ => False := by
  unfold partA
  cases agg with
  | true =>
    simp only [cond_true]
    cases hs : slabL n (dropL off l) with
    | none => trivial
    | some r =>
      simp only
      obtain ⟨g1, g2⟩ := slabL_spec _ _ _ hs
      rw [dropL_eq] at g1 g2
      refine ⟨.agg (cs.extract off (off + n)), by simp [part, run_isAgg ht, run_sizeOf hn], ?_⟩
      subst g1
      have hx : (cs.extract off (off + n)).toList = (cs.toList.drop off).take n := by
        simp
      exact .agg (by rw [hx]; exact (hl.drop off).take n) (by rw [hx]; intro x hm; exact h1 x (List.mem_of_mem_drop (List.mem_of_mem_take hm)))
  | false =>
    simp only [cond_false, nth_eq]
    cases hg : l[off]? with
    | none => trivial
    | some a =>
      simp only
      obtain ⟨v, k1, k2⟩ := hl.get hg
      refine ⟨v, ?_, k2⟩
      have : cs[off]? = some v := by simpa using k1
      simp [part, run_isAgg ht, this]

theorem snd_fld {t : TypeId} {fs : Array Field} {j : Nat} {f : Field} {n : Nat} {agg : Bool} (ht : Pr.underlying t = some (.struct fs)) (hf : fs[j]? = some f) (ha : tAgg Pr f.type = some agg)
    (hn : tSz Pr f.type = some n) {x : AV} {v : Value} (hx : V Pr ρ x v) :
    Snd Pr B w0 ρ h w ((do pure (.value (← Instr.field t v j)) : Sem Next).run Pr w) (iFld agg f.offset n x) := by
  cases hx with
  | agg hl h1 =>
    rename_i l cs
    have hs := VL_part (w := w) hl h1 (off := f.offset) ha hn
    simp only [iFld]
    cases hp : partA agg f.offset n l <;> rw [hp] at hs <;> try (exact hs.elim)
    · obtain ⟨r, g1, g2⟩ := hs
      refine ⟨r, .inl ?_, g2⟩
      simp [Instr.field, underlying, ht, hf, asAgg, g1]
    · trivial
  | _ => trivial

theorem snd_ixa {t e : TypeId} {len sz : Nat} {agg : Bool} (ht : Pr.underlying t = some (.array len e)) (ha : tAgg Pr e = some agg) (hn : tSz Pr e = some sz) {x i : AV} {v u : Value} (hx : V Pr ρ x v) (hi : V Pr ρ i u) :
    Snd Pr B w0 ρ h w ((do pure (.value (← Instr.index t v u)) : Sem Next).run Pr w) (iIxa len sz agg x i) := by
  cases hi with
  | int k n =>
    cases n with
    | ofNat n =>
      cases hx with
      | agg hl h1 =>
        rename_i l cs
        simp only [iIxa]
        cases hb : Nat.blt n len with
        | false => trivial
        | true =>
          have hlt : n < len := Nat.le_of_ble_eq_true hb
          have hs := VL_part (w := w) hl h1 (off := n * sz) ha hn
          simp only [cond_true]
          cases hp : partA agg (n * sz) sz l <;> rw [hp] at hs <;> try (exact hs.elim)
          · obtain ⟨r, g1, g2⟩ := hs
            refine ⟨r, .inl ?_, g2⟩
            simp [Instr.index, underlying, ht, asIntOf, hlt, run_sizeOf hn, g1]
          · trivial
      | _ => trivial
    | negSucc n => cases hx <;> trivial
  | _ => cases hx <;> trivial

theorem snd_ta {a xt : TypeId} {d : TypeDesc} (hd : Pr.underlying a = some d) (hni : ∀ ms, d ≠ .interface ms) {z : AV} (hz : tZero Pr a = some z) (ok : Bool) {x : AV} {v : Value} (hx : V Pr ρ x v) :
    Snd Pr B w0 ρ h w ((do pure (.value (← Instr.typeAssert v xt a ok)) : Sem Next).run Pr w) (iTa a z ok x) := by
  obtain ⟨zv, z1, z2⟩ := run_zeroValue (w := w) hz
  have z3 : V Pr ρ z zv := ofV_V z2
  cases hx with
  | iface hv =>
    rename_i t y u
    simp only [iTa]
    cases hb : Nat.beq t a with
    | true =>
      have hta := Nat.eq_of_beq_eq_true hb
      subst hta
      cases ok
      · refine ⟨_, .inl ?_, hv⟩
        cases d <;> first | (simp [Instr.typeAssert, underlying, hd]; done) | exact absurd rfl (hni _)
      · refine ⟨_, .inl ?_, .tup (.cons hv (.cons (.bool true) .nil))⟩
        cases d <;> first | (simp [Instr.typeAssert, underlying, hd]; done) | exact absurd rfl (hni _)
    | false =>
      have hta : t ≠ a := fun hh => by subst hh; rw [Nat.beq_refl] at hb; cases hb
      cases ok
      · trivial
      · refine ⟨_, .inl ?_, .tup (.cons z3 (.cons (.bool false) .nil))⟩
        cases d <;> first | (simp [Instr.typeAssert, underlying, hd, hta, z1]; done) | exact absurd rfl (hni _)
  | iface0 =>
    cases ok
    · trivial
    · refine ⟨_, .inl ?_, .tup (.cons z3 (.cons (.bool false) .nil))⟩
      cases d <;> first | (simp [Instr.typeAssert, underlying, hd, z1]; done) | exact absurd rfl (hni _)
  | _ => trivial

theorem snd_ex (i : Nat) {x : AV} {v : Value} (hx : V Pr ρ x v) : Snd Pr B w0 ρ h w ((do pure (.value (← Instr.extract v i)) : Sem Next).run Pr w) (iEx i x) := by
  cases hx with
  | tup hl =>
    rename_i l cs
    simp only [iEx, nth_eq]
    cases hg : l[i]? with
    | none => trivial
    | some a =>
      obtain ⟨u, k1, k2⟩ := hl.get hg
      have : cs[i]? = some u := by simpa using k1
      exact ⟨u, .inl (by simp [Instr.extract, this]), k2⟩
  | _ => trivial

theorem snd_minmax (mx : Bool) : ∀ {r : List AV} {us : List Value} {k : IntKind} {a : Int}, VL Pr ρ r us →
    match mnL mx k a r with
    | .v x => ∃ v, (us.foldlM (if mx then Builtin.max2 else Builtin.min2) (.int k a)).run Pr w = .ok v w ∧ V Pr ρ x v
    | .fail _ => True
    | _ => False
  | [], _, k, a, .nil => ⟨.int k a, by simp, .int _ _⟩
  | _, _, k, a, .cons hv ht => by
    cases hv with
    | int k' b =>
      simp only [mnL]
      have ih := snd_minmax mx (k := k) (a := bif (bif mx then ltI a b else ltI b a) then b else a) ht
      generalize mnL mx k (bif (bif mx then ltI a b else ltI b a) then b else a) _ = R at ih ⊢
      cases R <;> try (exact ih.elim)
      · obtain ⟨v, g1, g2⟩ := ih
        refine ⟨v, ?_, g2⟩
        rw [← g1]
        cases mx
        · simp only [List.foldlM_cons, Sem.run_bind, Bool.false_eq_true, if_false, Builtin.min2, Sem.run_pure, Result.andThen_ok, cond_false, ltI_eq]
          by_cases hb : b < a <;> simp [hb]
        · simp only [List.foldlM_cons, Sem.run_bind, if_true, Builtin.max2, Sem.run_pure, Result.andThen_ok, cond_true, ltI_eq]
          by_cases hb : a < b <;> simp [hb]
      · trivial
    | _ => trivial

end
end Go.Proofs.YtlklnffmhclioaaGreatDoor.Ev

namespace Go.Proofs.YtlklnffmhclioaaGreatDoor.Ev
open Go.RowKit

section
variable {Pr : Program} {B : Nat} {w0 w : World} {ρ : En} {h : AH}

-- slices
def OV (Pr : Program) (ρ : En) (tm : T AV) : Option Opd → Option Value → Prop
  | none, none => True
  | some y, some v => V Pr ρ (opd tm y) v
  | _, _ => False

theorem natOf_sound {a : AV} {n : Nat} (hn : natOf a = some n) {v : Value} (hv : V Pr ρ a v) : ∃ k, v = .int k (Int.ofNat n) := by
  unfold natOf at hn
  split at hn
  · cases hn; cases hv; exact ⟨_, rfl⟩
  · cases hn

theorem optN_sound {tm : T AV} {d n : Nat} {o : Option Opd} {ov : Option Value} (hn : optN tm d o = some n) (hv : OV Pr ρ tm o ov) : (o = none ∧ ov = none ∧ n = d) ∨ ∃ k, ov = some (.int k (Int.ofNat n)) := by
  cases o with
  | none =>
    cases ov with
    | none => unfold optN at hn; cases hn; exact .inl ⟨rfl, rfl, rfl⟩
    | some v => exact hv.elim
  | some y =>
    cases ov with
    | none => exact hv.elim
    | some v =>
      obtain ⟨k, hk⟩ := natOf_sound (show natOf (opd tm y) = some n from hn) hv
      exact .inr ⟨k, by rw [hk]⟩

theorem run_sliceBound {k : IntKind} {n y : Nat} (hn : n ≤ y) (code : BoundsCode) : (Instr.sliceBound (.int k (Int.ofNat n)) y code).run Pr w = .ok n w := by
  have : (0 : Int) ≤ Int.ofNat n ∧ Int.ofNat n ≤ (y : Int) := ⟨Int.natCast_nonneg n, Int.ofNat_le.2 hn⟩
  simp only [Instr.sliceBound, asIntOf, Sem.run_bind, Sem.run_pure, Result.andThen_ok]
  rw [if_pos this]; rfl

theorem run_sliceBound' {k : IntKind} {n y : Nat} (hn : n ≤ y) (code : BoundsCode) : (Instr.sliceBound (.int k (n : Int)) y code).run Pr w = .ok n w := run_sliceBound hn code

theorem run_sliceBounds (isSlice : Bool) {len cap l hh m : Nat} {lo hi mx : Option Value}
    (hm : (mx = none ∧ m = cap) ∨ ∃ k, mx = some (.int k (Int.ofNat m))) (hh' : (hi = none ∧ mx = none ∧ hh = len) ∨ ∃ k, hi = some (.int k (Int.ofNat hh))) (hl : (lo = none ∧ l = 0) ∨ ∃ k, lo = some (.int k (Int.ofNat l)))
    (h1 : m ≤ cap) (h2 : hh ≤ m) (h3 : l ≤ hh) : (Instr.sliceBounds isSlice len cap lo hi mx).run Pr w = .ok (l, hh, m) w := by
  unfold Instr.sliceBounds
  rcases hm with ⟨e1, e2⟩ | ⟨k1, e1⟩ <;> rcases hh' with ⟨e3, e4, e5⟩ | ⟨k2, e3⟩ <;> rcases hl with ⟨e6, e7⟩ | ⟨k3, e6⟩ <;> subst e1 e3 e6 <;> (try subst e2) <;> (try subst e5) <;> (try subst e7) <;>
    first
      | (simp at e4; done)
      | simp [run_sliceBound', h1, h2, h3]

/-- the part of a slice's address: where the machine begins anew -/
theorem cut3_sound {b : P} {e : BE} (hp : ρ b = some e) {off len c sz l hh m : Nat} {x : AV} (hc : cut3 b off len c sz l hh m = .v x) :
    m ≤ c ∧ hh ≤ m ∧ l ≤ hh ∧ V Pr ρ x (.slice (some (if m = l then ad e off else (ad e off).add (l * sz))) (hh - l) (m - l)) := by
  unfold cut3 at hc
  cases hb : (Nat.ble m c && Nat.ble hh m && Nat.ble l hh) with
  | false => rw [hb] at hc; cases hc
  | true =>
    rw [hb] at hc
    simp only [Bool.and_eq_true] at hb
    obtain ⟨⟨b1, b2⟩, b3⟩ := hb
    have b1 := Nat.le_of_ble_eq_true b1
    have b2 := Nat.le_of_ble_eq_true b2
    have b3 := Nat.le_of_ble_eq_true b3
    refine ⟨b1, b2, b3, ?_⟩
    simp only [cond_true, IR.v.injEq] at hc
    subst hc
    cases hml : Nat.beq m l with
    | true =>
      have := Nat.eq_of_beq_eq_true hml
      subst this
      simp only [cond_true, if_true, Nat.sub_self]
      have : hh = m := by omega
      subst this
      exact .slE hp (by simp)
    | false =>
      have hne : ¬ m = l := fun q => by subst q; rw [Nat.beq_refl] at hml; cases hml
      simp only [cond_false, if_neg hne, add_ad]
      exact .slE hp (by show hh - l ≤ m - l; omega)

theorem cut3_shape {b : P} {off len c sz l hh m : Nat} : (∃ x, cut3 b off len c sz l hh m = .v x) ∨ cut3 b off len c sz l hh m = .fail 12 := by
  unfold cut3
  cases (Nat.ble m c && Nat.ble hh m && Nat.ble l hh)
  · exact .inr rfl
  · exact .inl ⟨_, rfl⟩

theorem snd_sls {t el : TypeId} {sz : Nat} (ht : Pr.underlying t = some (.slice el)) (hs : tSz Pr el = some sz) {tm : T AV} {x : AV} {v : Value} (hx : V Pr ρ x v) {lo hi mx : Option Opd} {vlo vhi vmx : Option Value}
    (hlo : OV Pr ρ tm lo vlo) (hhi : OV Pr ρ tm hi vhi) (hmx : OV Pr ρ tm mx vmx) (hm : mx.isSome = true → hi.isSome = true) :
    Snd Pr B w0 ρ h w ((do pure (.value (← Instr.sliceAt t v vlo vhi vmx)) : Sem Next).run Pr w) (iSls tm sz x lo hi mx) := by
  have hmn : ∀ {d : Nat}, hi = none → vmx = none := by
    intro _ hd; subst hd
    cases mx with
    | none => cases vmx with
      | none => rfl
      | some _ => exact hmx.elim
    | some _ => simp at hm
  have bm : ∀ {d n : Nat}, optN tm d mx = some n → (vmx = none ∧ n = d) ∨ ∃ k, vmx = some (.int k (Int.ofNat n)) := by
    intro d n hn; rcases optN_sound hn hmx with ⟨_, g2, g3⟩ | g
    · exact .inl ⟨g2, g3⟩
    · exact .inr g
  have bl : ∀ {n : Nat}, optN tm 0 lo = some n → (vlo = none ∧ n = 0) ∨ ∃ k, vlo = some (.int k (Int.ofNat n)) := by
    intro n hn; rcases optN_sound hn hlo with ⟨_, g2, g3⟩ | g
    · exact .inl ⟨g2, g3⟩
    · exact .inr g
  have bh : ∀ {d n : Nat}, optN tm d hi = some n → (vhi = none ∧ vmx = none ∧ n = d) ∨ ∃ k, vhi = some (.int k (Int.ofNat n)) := by
    intro d n hn; rcases optN_sound hn hhi with ⟨g1, g2, g3⟩ | g
    · exact .inl ⟨g2, hmn (d := d) g1, g3⟩
    · exact .inr g
  cases hx with
  | sl0 =>
    unfold iSls
    simp only
    split
    · rename_i a1 a2 a3
      refine ⟨.slice none 0 0, .inl ?_, .sl0⟩
      have := run_sliceBounds (Pr := Pr) (w := w) true (len := 0) (cap := 0) (bm a3) (bh a2) (bl a1) (Nat.le_refl _) (Nat.le_refl _) (Nat.le_refl _)
      simp [Instr.sliceAt, Instr.slice, underlying, ht, this, run_sizeOf hs]
    · trivial
  | slE hp hl =>
    rename_i p alt off len c e
    unfold iSls
    simp only
    split
    · rename_i l hh m a1 a2 a3
      rcases cut3_shape (b := p) (off := off) (len := len) (c := c) (sz := sz) (l := l) (hh := hh) (m := m) with ⟨y, hy⟩ | hy
      · rw [hy]
        obtain ⟨b1, b2, b3, hv⟩ := cut3_sound (Pr := Pr) hp hy
        have := run_sliceBounds (Pr := Pr) (w := w) true (len := len) (cap := c) (bm a3) (bh a2) (bl a1) b1 b2 b3
        refine ⟨_, .inl ?_, hv⟩
        simp only [Instr.sliceAt, Instr.slice, Sem.run_bind, run_underlying ht, Result.andThen_ok, this, run_sizeOf hs, Sem.run_pure, Option.map_some]
        congr 3
        split <;> rfl
      · rw [hy]; trivial
    · trivial
  | slG hp hsz ho hl =>
    rename_i p alt off len g gs e
    unfold iSls
    simp only
    cases a1 : optN tm 0 lo with
    | none => exact True.intro
    | some l =>
    cases a2 : optN tm len hi with
    | none => exact True.intro
    | some hh =>
    cases mx with
    | none =>
      simp only
      cases hb : (Nat.ble hh len && Nat.ble l hh && Nat.beq gs sz) with
      | false => trivial
      | true =>
        simp only [Bool.and_eq_true] at hb
        obtain ⟨⟨b1, b2⟩, b3⟩ := hb
        have b1 := Nat.le_of_ble_eq_true b1
        have b2 := Nat.le_of_ble_eq_true b2
        have b3 := Nat.eq_of_beq_eq_true b3
        have hvm : vmx = none := by cases vmx with
          | none => rfl
          | some _ => exact hmx.elim
        have := run_sliceBounds (Pr := Pr) (w := w) true (len := len) (cap := e.cap - g) (mx := vmx) (m := e.cap - g) (.inl ⟨hvm, rfl⟩) (bh a2) (bl a1) (Nat.le_refl _) (by omega) b2
        simp only [cond_true]
        cases hl0 : Nat.beq l 0 with
        | true =>
          have hl0 := Nat.eq_of_beq_eq_true hl0
          subst hl0
          refine ⟨_, .inl ?_, .slG hp hsz ho (by omega)⟩
          simp only [Instr.sliceAt, Instr.slice, Sem.run_bind, run_underlying ht, Result.andThen_ok, this, run_sizeOf hs, Sem.run_pure, Option.map_some, add_ad, Nat.zero_mul, Nat.add_zero, Nat.sub_zero]
          congr 3
          simp
        | false =>
          have hne : ¬ l = 0 := fun q => by subst q; cases hl0
          refine ⟨_, .inl ?_, .slG hp hsz (by rw [ho, b3, Nat.add_mul]) (by show g + l + (hh - l) ≤ e.cap; omega)⟩
          have hcg : ¬ e.cap = g := by omega
          simp only [Instr.sliceAt, Instr.slice, Sem.run_bind, run_underlying ht, Result.andThen_ok, this, run_sizeOf hs, Sem.run_pure, Option.map_some, add_ad, if_neg hcg]
          by_cases hcl : e.cap = g + l
          · have h2 : e.cap - g = l := by omega
            simp [hcl]
          · have h2 : ¬ e.cap - g = l := by omega
            simp only [if_neg h2, if_neg hcl]
            congr 3
            omega
    | some mx' =>
      simp only
      cases hm' : natOf (opd tm mx') with
      | none => trivial
      | some m =>
        simp only
        cases h0 : Nat.beq len 0 with
        | true => trivial
        | false =>
          have hne : ¬ len = 0 := fun q => by subst q; cases h0
          have hcg : ¬ e.cap = g := by omega
          simp only [cond_false]
          rcases cut3_shape (b := p) (off := off) (len := len) (c := len) (sz := sz) (l := l) (hh := hh) (m := m) with ⟨y, hy⟩ | hy
          · rw [hy]
            obtain ⟨b1, b2, b3, hv⟩ := cut3_sound (Pr := Pr) hp hy
            have hmm : optN tm 0 (some mx') = some m := hm'
            have bmm := bm (d := 0) hmm
            have hvm : ∃ k, vmx = some (.int k (Int.ofNat m)) := by
              rcases bmm with ⟨g1, _⟩ | g
              · subst g1; exact hmx.elim
              · exact g
            have := run_sliceBounds (Pr := Pr) (w := w) true (len := len) (cap := e.cap - g) (.inr hvm) (bh a2) (bl a1) (by omega) b2 b3
            refine ⟨_, .inl ?_, hv⟩
            simp only [Instr.sliceAt, Instr.slice, Sem.run_bind, run_underlying ht, Result.andThen_ok, this, run_sizeOf hs, Sem.run_pure, Option.map_some, if_neg hcg]
            congr 3
            split <;> rfl
          · rw [hy]; trivial
  | _ => trivial

theorem snd_slt {t : TypeId} (ht : Pr.underlying t = some .string) {tm : T AV} {x : AV} {v : Value} (hx : V Pr ρ x v) {lo hi : Option Opd} {vlo vhi : Option Value}
    (hlo : OV Pr ρ tm lo vlo) (hhi : OV Pr ρ tm hi vhi) :
    Snd Pr B w0 ρ h w ((do pure (.value (← Instr.sliceAt t v vlo vhi none)) : Sem Next).run Pr w) (iSlt tm x lo hi) := by
  cases hx with
  | str hb =>
    rename_i s b
    unfold iSlt
    simp only
    split
    · rename_i l hh a1 a2
      cases hbb : (Nat.ble l hh && Nat.ble hh (List.length s)) with
      | false => trivial
      | true =>
        simp only [Bool.and_eq_true] at hbb
        obtain ⟨b1, b2⟩ := hbb
        have b1 := Nat.le_of_ble_eq_true b1
        have b2 := Nat.le_of_ble_eq_true b2
        subst hb
        rw [bytesA_len] at b2
        have hr := run_sliceBounds (Pr := Pr) (w := w) false (len := b.size) (cap := b.size) (lo := vlo) (hi := vhi) (mx := none) (l := l) (hh := hh) (m := b.size) (.inl ⟨rfl, rfl⟩)
          (by rcases optN_sound a2 hhi with ⟨_, g2, g3⟩ | g
              · exact .inl ⟨g2, rfl, by rw [g3, bytesA_len]⟩
              · exact .inr g)
          (by rcases optN_sound a1 hlo with ⟨_, g2, g3⟩ | g
              · exact .inl ⟨g2, g3⟩
              · exact .inr g) (Nat.le_refl _) b2 b1
        refine ⟨_, .inl ?_, .str (b := b.extract l hh) ?_⟩
        · simp [Instr.sliceAt, Instr.slice, underlying, ht, hr]
        · rw [dropL_eq]
          simp only [bytesA, ByteArray.data_extract, Array.toList_extract, List.extract_eq_take_drop, List.map_take, List.map_drop]
          rfl
    · trivial
  | _ => trivial

theorem snd_sla {t el : TypeId} {n sz : Nat} (ht : Pr.underlying t = some (.array n el) ∨ ∃ a, Pr.underlying t = some (.pointer a) ∧ Pr.underlying a = some (.array n el)) (hs : tSz Pr el = some sz) {tm : T AV} {x : AV} {v : Value}
    (hx : V Pr ρ x v) {lo hi mx : Option Opd} {vlo vhi vmx : Option Value} (hlo : OV Pr ρ tm lo vlo) (hhi : OV Pr ρ tm hi vhi) (hmx : OV Pr ρ tm mx vmx) (hm : mx.isSome = true → hi.isSome = true) :
    Snd Pr B w0 ρ h w ((do pure (.value (← Instr.sliceAt t v vlo vhi vmx)) : Sem Next).run Pr w) (iSla tm n sz x lo hi mx) := by
  cases hx with
  | ptr hp =>
    rename_i p off e
    unfold iSla
    simp only
    split
    · rename_i l hh m a1 a2 a3
      rcases cut3_shape (b := p) (off := off) (len := n) (c := n) (sz := sz) (l := l) (hh := hh) (m := m) with ⟨y, hy⟩ | hy
      · rw [hy]
        obtain ⟨b1, b2, b3, hv⟩ := cut3_sound (Pr := Pr) hp hy
        have hr := run_sliceBounds (Pr := Pr) (w := w) false (len := n) (cap := n) (lo := vlo) (hi := vhi) (mx := vmx) (l := l) (hh := hh) (m := m)
          (by rcases optN_sound a3 hmx with ⟨_, g2, g3⟩ | g
              · exact .inl ⟨g2, g3⟩
              · exact .inr g)
          (by rcases optN_sound a2 hhi with ⟨g1, g2, g3⟩ | g
              · refine .inl ⟨g2, ?_, g3⟩
                subst g1
                cases mx with
                | none => cases vmx with
                  | none => rfl
                  | some _ => exact hmx.elim
                | some _ => simp at hm
              · exact .inr g)
          (by rcases optN_sound a1 hlo with ⟨_, g2, g3⟩ | g
              · exact .inl ⟨g2, g3⟩
              · exact .inr g) b1 b2 b3
        refine ⟨_, .inl ?_, hv⟩
        rcases ht with ht | ⟨a, ht, ha⟩
        · simp [Instr.sliceAt, underlying, ht, Instr.sureAddr, hr, run_sizeOf hs]
        · simp [Instr.sliceAt, Instr.slice, underlying, ht, ha, asAddr, hr, run_sizeOf hs]
      · rw [hy]; trivial
    · trivial
  | _ => trivial

end
end Go.Proofs.YtlklnffmhclioaaGreatDoor.Ev

namespace Go.Proofs.YtlklnffmhclioaaGreatDoor.Ev
open Go.RowKit

section
variable {Pr : Program} {B : Nat} {w0 w : World} {ρ : En} {h : AH}

-- filling
theorem foldl_set : ∀ (l : List Value) (s off : Nat) (cs : Array Value), ∃ cs' : Array Value,
    (l.zipIdx s).foldl (fun cs (x : Value × Nat) => cs.setIfInBounds (off + x.2) x.1) cs = cs' ∧ cs'.size = cs.size ∧
    ∀ k, cs'[k]? = if off + s ≤ k ∧ k < off + s + l.length ∧ k < cs.size then l[k - (off + s)]? else cs[k]?
  | [], s, off, cs => ⟨cs, rfl, rfl, fun k => by rw [if_neg (by rintro ⟨q1, q2, _⟩; simp only [List.length_nil] at q2; omega)]⟩
  | v :: l, s, off, cs => by
    obtain ⟨cs', g1, g2, g3⟩ := foldl_set l (s + 1) off (cs.setIfInBounds (off + s) v)
    refine ⟨cs', by simpa [List.zipIdx_cons] using g1, by simpa using g2, fun k => ?_⟩
    rw [g3 k]
    simp only [Array.size_setIfInBounds, List.length_cons]
    by_cases hk0 : k = off + s
    · subst hk0
      rw [if_neg (by omega)]
      by_cases hlt : off + s < cs.size
      · rw [if_pos (by omega)]; simp [hlt]
      · rw [if_neg (by omega)]; simp [hlt]
    · rw [Array.getElem?_setIfInBounds_ne (Ne.symm hk0)]
      by_cases hr : off + (s + 1) ≤ k ∧ k < off + (s + 1) + l.length ∧ k < cs.size
      · rw [if_pos hr, if_pos (by omega)]
        rw [show k - (off + s) = (k - (off + (s + 1))) + 1 from by omega]
        simp
      · rw [if_neg hr, if_neg (by omega)]

/-- the parts of an aggregate -/
theorem fill_sound {tm : T AV} {ev : Operand → Value} (pl : Nat → Option (Nat × Nat)) : ∀ {ps : List (Nat × Operand)} {qs : List (Nat × Nat × Opd)} {l l' : List AV} {cs : Array Value},
    cParts Pr pl ps = some qs → (∀ p ∈ ps, OP Pr ρ tm ev p.2) → fillL tm qs l = some l' → VL Pr ρ l cs.toList → (∀ u ∈ cs.toList, u.oneCell' = true) →
    ∃ cs', Instr.fill pl cs (ps.map fun p => (p.1, ev p.2)) = some cs' ∧ VL Pr ρ l' cs'.toList ∧ (∀ u ∈ cs'.toList, u.oneCell' = true)
  | [], qs, l, l', cs, hc, _, hf, hl, h1 => by
    cases hc; cases hf
    exact ⟨cs, rfl, hl, h1⟩
  | (i, x) :: ps, qs, l, l', cs, hc, hx, hf, hl, h1 => by
    simp only [cParts, Option.bind_eq_bind, Option.bind_eq_some_iff, Option.some.injEq] at hc
    obtain ⟨⟨off, n⟩, hp, y, hy, r, hr, hqs⟩ := hc
    subst hqs
    simp only [fillL] at hf
    cases hco : cellsO (opd tm y) with
    | none => rw [hco] at hf; cases hf
    | some lx =>
    rw [hco] at hf
    simp only at hf
    have hnt : ∀ r, opd tm y ≠ .tup r := by intro r hr'; rw [hr'] at hco; cases hco
    have hcx : lx = cellsA (opd tm y) := by
      cases hz : opd tm y <;> rw [hz] at hco <;> cases hco <;> rfl
    subst hcx
    cases hb : Nat.beq (cellsA (opd tm y)).length n with
    | false => rw [hb] at hf; cases hf
    | true =>
      rw [hb] at hf
      simp only [cond_true] at hf
      cases hs : setAt off (cellsA (opd tm y)) l with
      | none => rw [hs] at hf; cases hf
      | some l1 =>
        rw [hs] at hf
        simp only at hf
        have hv : V Pr ρ (opd tm y) (ev x) := hx (i, x) (by simp) y hy
        have hn := Nat.eq_of_beq_eq_true hb
        obtain ⟨s1, s2⟩ := setAt_spec _ _ _ _ hs
        have hll : l.length = cs.size := by simpa using hl.length
        obtain ⟨k1, k2⟩ := hv.cellsA hnt
        have hkl : (cellsA (opd tm y)).length = (ev x).cells.size := by simpa using k1.length
        obtain ⟨cs1, f1, f2, f3⟩ := foldl_set (ev x).cells.toList 0 off cs
        have hvl : VL Pr ρ l1 cs1.toList := by
          refine VL.of_get ?_ fun k a ha => ?_
          · have e1 : l1.length = l.length := by subst s1; simp; omega
            have e2 : cs1.toList.length = cs.size := by rw [Array.length_toList, f2]
            omega
          · rw [setAt_get hs] at ha
            rw [Array.getElem?_toList, f3]
            by_cases hr' : off ≤ k ∧ k < off + (cellsA (opd tm y)).length
            · rw [if_pos hr'] at ha
              rw [if_pos (by rw [Array.length_toList]; omega)]
              simpa using k1.get ha
            · rw [if_neg hr'] at ha
              rw [if_neg (by rw [Array.length_toList]; omega)]
              simpa using hl.get ha
        have hone : ∀ u ∈ cs1.toList, u.oneCell' = true := by
          intro u hu
          obtain ⟨k, hk⟩ := List.getElem?_of_mem hu
          rw [Array.getElem?_toList, f3] at hk
          split at hk
          · exact k2 u (List.mem_of_getElem? hk)
          · exact h1 u (List.mem_of_getElem? (by rw [Array.getElem?_toList]; exact hk))
        obtain ⟨cs', m1, m2, m3⟩ := fill_sound pl hr (fun p hp => hx p (by simp [hp])) hf hvl hone
        refine ⟨cs', ?_, m2, m3⟩
        have hcond : ¬ ((ev x).cells.size ≠ n ∨ off + (ev x).cells.size > cs.size) := by omega
        simp only [List.map_cons, Instr.fill, hp]
        have hfold : (Array.foldl (fun cs (x : Value × Nat) => cs.setIfInBounds (off + x.2) x.1) cs (ev x).cells.zipIdx) = cs1 := by
          rw [← Array.foldl_toList, Array.toList_zipIdx]; exact f1
        rw [if_neg (by simpa using hcond)]
        have : Array.foldl (fun cs x => match x with | (c, j) => cs.setIfInBounds (off + j) c) cs (ev x).cells.zipIdx = cs1 := hfold
        rw [this]; exact m1


theorem run_mapM_list {α β : Type} (f : α → Sem β) (g : α → β) : ∀ (l : List α) (w : World), (∀ x ∈ l, ∀ w, (f x).run Pr w = .ok (g x) w) → (l.mapM f).run Pr w = .ok (l.map g) w
  | [], w, _ => by simp
  | x :: l, w, hf => by
    simp only [List.mapM_cons, Sem.run_bind, hf x (by simp) w, Result.andThen_ok]
    rw [run_mapM_list f g l w fun y hy => hf y (by simp [hy])]
    simp

theorem snd_bld_struct {t : TypeId} {fs : Array Field} (ht : Pr.underlying t = some (.struct fs)) (hall : fs.toList.all (fun f => (tSz Pr f.type).isSome) = true) {z : List AV} (hz : tZc Pr t = some z)
    {tm : T AV} {ev : Operand → Value} {ps : Array (Nat × Operand)} {qs : List (Nat × Nat × Opd)} (hc : cParts Pr (place Pr fs.toList) ps.toList = some qs) (hx : ∀ p ∈ ps.toList, OP Pr ρ tm ev p.2) :
    Snd Pr B w0 ρ h w ((do pure (.value (← Instr.build t (ps.map fun (i, x) => (i, ev x)))) : Sem Next).run Pr w) (iBld tm z qs) := by
  unfold iBld
  cases hf : fillL tm qs z with
  | none => trivial
  | some l =>
    obtain ⟨v, n, g1, k1, k2, _⟩ := run_zc (w := w) (ρ := ρ) hz
    have hpl : ∀ i, place Pr fs.toList i = (fs.map fun f => (f.offset, (tSz Pr f.type).getD 0))[i]? := by
      intro i
      unfold place
      cases hi : fs.toList[i]? with
      | none =>
        have : fs[i]? = none := by simpa using hi
        simp [this]
      | some f =>
        have hfi : fs[i]? = some f := by simpa using hi
        have hsz := List.all_eq_true.1 hall f (List.mem_of_getElem? hi)
        obtain ⟨m, hm⟩ := Option.isSome_iff_exists.1 hsz
        simp [hfi, hm]
    have hc' : cParts Pr (fun i => (fs.map fun f => (f.offset, (tSz Pr f.type).getD 0))[i]?) ps.toList = some qs := by
      rw [← hc]; congr 1; funext i; exact (hpl i).symm
    obtain ⟨cs', f1, f2, f3⟩ := fill_sound (Pr := Pr) (ρ := ρ) _ hc' hx hf k1 k2
    refine ⟨.agg cs', .inl ?_, .agg f2 f3⟩
    have hm : (fs.mapM fun f => (do pure (f.offset, ← sizeOf f.type) : Sem (Nat × Nat))).run Pr w = .ok (fs.map fun f => (f.offset, (tSz Pr f.type).getD 0)) w := by
      rw [Array.mapM_eq_mapM_toList, Sem.run_map]
      rw [run_mapM_list (Pr := Pr) _ (fun f => (f.offset, (tSz Pr f.type).getD 0)) fs.toList w ?_]
      · simp only [Result.andThen_ok]
        congr 1
        exact Array.ext' (by simp)
      · intro f hf' w'
        obtain ⟨m, hm⟩ := Option.isSome_iff_exists.1 (List.all_eq_true.1 hall f hf')
        simp [run_sizeOf hm, hm]
    have hps : (ps.map fun (x : Nat × Operand) => (x.1, ev x.2)).toList = ps.toList.map fun p => (p.1, ev p.2) := by simp
    simp only [Instr.build, Sem.run_bind, g1, Result.andThen_ok, run_underlying ht, hm]
    rw [hps, f1]
    rfl

theorem snd_bld_arr {t el : TypeId} {n sz : Nat} (ht : Pr.underlying t = some (.array n el)) (hs : tSz Pr el = some sz) {z : List AV} (hz : tZc Pr t = some z)
    {tm : T AV} {ev : Operand → Value} {ps : Array (Nat × Operand)} {qs : List (Nat × Nat × Opd)} (hc : cParts Pr (fun i => some (i * sz, sz)) ps.toList = some qs) (hx : ∀ p ∈ ps.toList, OP Pr ρ tm ev p.2) :
    Snd Pr B w0 ρ h w ((do pure (.value (← Instr.build t (ps.map fun (i, x) => (i, ev x)))) : Sem Next).run Pr w) (iBld tm z qs) := by
  unfold iBld
  cases hf : fillL tm qs z with
  | none => trivial
  | some l =>
    obtain ⟨v, m, g1, k1, k2, _⟩ := run_zc (w := w) (ρ := ρ) hz
    obtain ⟨cs', f1, f2, f3⟩ := fill_sound (Pr := Pr) (ρ := ρ) _ hc hx hf k1 k2
    refine ⟨.agg cs', .inl ?_, .agg f2 f3⟩
    have hps : (ps.map fun (x : Nat × Operand) => (x.1, ev x.2)).toList = ps.toList.map fun p => (p.1, ev p.2) := by simp
    simp only [Instr.build, Sem.run_bind, g1, Result.andThen_ok, run_underlying ht, run_sizeOf hs]
    rw [hps, f1]
    rfl

-- rows of zeros
theorem repl_length (z : List AV) : ∀ n, (repl z n).length = n * z.length
  | 0 => by simp [repl]
  | n + 1 => by simp [repl, repl_length z n, Nat.add_mul]; omega
theorem repl_get (z : List AV) (hz : z.length ≠ 0) : ∀ (n k : Nat), (repl z n)[k]? = if k < n * z.length then z[k % z.length]? else none
  | 0, k => by simp [repl]
  | n + 1, k => by
    simp only [repl]
    by_cases hk : k < z.length
    · rw [List.getElem?_append_left hk, if_pos (by rw [Nat.add_mul]; omega), Nat.mod_eq_of_lt hk]
    · rw [List.getElem?_append_right (by omega), repl_get z hz n]
      by_cases h2 : k - z.length < n * z.length
      · rw [if_pos h2, if_pos (by rw [Nat.add_mul]; omega)]
        congr 1
        rw [Nat.mod_eq_sub_mod (by omega : k ≥ z.length)]
      · rw [if_neg h2, if_neg (by rw [Nat.add_mul]; omega)]

theorem zeros_sound {z : List AV} {v : Value} {n : Nat} (k1 : VL Pr ρ z v.cells.toList) (k2 : ∀ u ∈ v.cells.toList, u.oneCell' = true) (hn : v.cells.size = n) (h0 : n ≠ 0) (m : Nat) :
    VL Pr ρ (repl z m) ((Array.range (m * n)).map fun i => v.cells[i % v.cells.size]!).toList ∧ ∀ u ∈ ((Array.range (m * n)).map fun i => v.cells[i % v.cells.size]!).toList, u.oneCell' = true := by
  have hzl : z.length = n := by have := k1.length; simp at this; omega
  have hget : ∀ k, k < m * n → ∃ u, v.cells[k % v.cells.size]? = some u ∧ v.cells[k % v.cells.size]! = u ∧ u ∈ v.cells.toList := by
    intro k _
    have hlt : k % v.cells.size < v.cells.size := Nat.mod_lt _ (by omega)
    refine ⟨v.cells[k % v.cells.size], by simp [hlt], by simp [hlt], by simp⟩
  constructor
  · refine VL.of_get (by rw [repl_length]; simp [hzl]) fun k a ha => ?_
    rw [repl_get z (by omega)] at ha
    split at ha
    · rename_i hk
      rw [hzl] at hk ha
      obtain ⟨u, g1, g2, _⟩ := hget k hk
      rw [hn] at g1
      obtain ⟨u', m1, m2⟩ := k1.get ha
      refine ⟨u, ?_, ?_⟩
      · simp [hk]; simpa using g2
      · have : u' = u := by
          have e1 : v.cells[k % n]? = some u' := by simpa using m1
          rw [e1] at g1; simpa using g1
        rw [← this]; exact m2
    · cases ha
  · intro u hu
    simp only [Array.toList_map, List.mem_map] at hu
    obtain ⟨k, hk, rfl⟩ := hu
    obtain ⟨u', _, g2, g3⟩ := hget k (by simpa using hk)
    rw [g2]; exact k2 u' g3

theorem tEl_spec {t : TypeId} {n : Nat} (ht : tEl Pr t = some n) : ∃ i z, Pr.info? t = some i ∧ i.size = n ∧ n ≠ 0 ∧ i.bytes ≤ 1048576 ∧ tSz Pr t = some n ∧ tZc Pr t = some z := by
  simp only [tEl, Option.bind_eq_some_iff] at ht
  obtain ⟨i, h1, h2⟩ := ht
  split at h2
  · rename_i hc
    obtain ⟨z, hz⟩ := Option.isSome_iff_exists.1 hc.2.2
    cases h2
    exact ⟨i, z, h1, rfl, hc.1, hc.2.1, by simp [tSz, h1], hz⟩
  · cases h2
theorem run_typeInfo {t : TypeId} {i : TypeInfo} (hi : Pr.info? t = some i) : (typeInfo t).run Pr w = .ok i w := by simp [typeInfo, hi]

theorem snd_bsl (hw : WR Pr B w0 ρ h w) {t el : TypeId} {n sz : Nat} (ht : Pr.underlying t = some (.slice el)) (hs : tSz Pr el = some sz) (h0 : sz ≠ 0) (hle : n * sz ≤ 100000) {z : List AV} (hz : tZc Pr el = some z)
    {tm : T AV} {ev : Operand → Value} {ps : Array (Nat × Operand)} {qs : List (Nat × Nat × Opd)} (hc : cParts Pr (fun i => some (i * sz, sz)) ps.toList = some qs) (hx : ∀ p ∈ ps.toList, OP Pr ρ tm ev p.2) :
    Snd Pr B w0 ρ h w ((do pure (.value (← Instr.buildSlice t n (ps.map fun (i, x) => (i, ev x)))) : Sem Next).run Pr w) (iBsl tm h (repl z n) n qs) := by
  unfold iBsl
  cases hf : fillL tm qs (repl z n) with
  | none => trivial
  | some l =>
    obtain ⟨v, m, g1, k1, k2, k3, k4, k5⟩ := run_zc (w := w) (ρ := ρ) hz
    rw [hs] at k3; cases k3
    obtain ⟨q1, q2⟩ := zeros_sound k1 k2 k5 h0 n
    obtain ⟨cs', f1, f2, f3⟩ := fill_sound (Pr := Pr) (ρ := ρ) _ hc hx hf q1 q2
    obtain ⟨m1, m2⟩ := hw.row el f2 f3
    refine ⟨_, .slice (some (ad ⟨w.heap.size, 0, 0, 0⟩ 0)) n n, _, .inl ?_, .slE (upd_same _ _ _) (Nat.le_refl _), m1, m2⟩
    have hps : (ps.map fun (x : Nat × Operand) => (x.1, ev x.2)).toList = ps.toList.map fun p => (p.1, ev p.2) := by simp
    have hlim : ¬ (n * sz > 2 ^ 24) := by omega
    simp only [Instr.buildSlice, Sem.run_bind, Result.andThen_ok, run_underlying ht, run_sizeOf hs, if_neg hlim, Sem.run_pure]
    by_cases hn0 : n * sz = 0
    · have hn : n = 0 := (Nat.mul_eq_zero.1 hn0).resolve_right h0
      subst hn
      simp only [Nat.zero_mul, if_true, Sem.run_bind, Sem.run_pure, Result.andThen_ok]
      have hz0 : ((Array.range 0).map fun x => (#[] : Array Value)[x % (#[] : Array Value).size]!) = (Array.range (0 * sz)).map fun i => v.cells[i % v.cells.size]! := by simp
      rw [hz0, hps, f1]
      simp [newRow, ad]
    · simp only [if_neg hn0, Sem.run_bind, g1, Result.andThen_ok, Sem.run_pure]
      rw [hps, f1]
      simp [newRow, ad]

theorem wrap_nat (n : Nat) (hn : n ≤ 9223372036854775807) : IntKind.i64.wrap (Int.ofNat n) = n := by
  have h : Int.ofNat n = (n : Int) := rfl
  rw [h]
  exact wrap_near _ (by omega) (by omega)

theorem snd_mks (hw : WR Pr B w0 ρ h w) {t el : TypeId} {sz : Nat} (ht : Pr.underlying t = some (.slice el)) (hel : tEl Pr el = some sz) {z : List AV} (hz : tZc Pr el = some z) {l c : AV} {lv cv : Value}
    (hl : V Pr ρ l lv) (hc : V Pr ρ c cv) : Snd Pr B w0 ρ h w ((do pure (.value (← Instr.makeSlice t lv cv)) : Sem Next).run Pr w) (iMks h z l c) := by
  unfold iMks
  cases h1 : natOf l with
  | none => trivial
  | some nl =>
  cases h2 : natOf c with
  | none => trivial
  | some nc =>
  obtain ⟨kl, hkl⟩ := natOf_sound h1 hl
  obtain ⟨kc, hkc⟩ := natOf_sound h2 hc
  subst hkl hkc
  simp only
  cases hb : (Nat.ble nl nc && Nat.blt nc 100000) with
  | false => trivial
  | true =>
    simp only [Bool.and_eq_true] at hb
    have b1 := Nat.le_of_ble_eq_true hb.1
    have b2 : nc < 100000 := Nat.le_of_ble_eq_true hb.2
    obtain ⟨i, z', e1, e2, e3, e4, e5, e6⟩ := tEl_spec hel
    obtain ⟨v, m, g1, k1, k2, k3, k4, k5⟩ := run_zc (w := w) (ρ := ρ) hz
    rw [e5] at k3; cases k3
    obtain ⟨q1, q2⟩ := zeros_sound k1 k2 k5 e3 nc
    obtain ⟨m1, m2⟩ := hw.row el q1 q2
    refine ⟨_, .slice (some (ad ⟨w.heap.size, 0, 0, 0⟩ 0)) nl nc, _, .inl ?_, .slE (upd_same _ _ _) b1, m1, m2⟩
    have w1 := wrap_nat nl (by omega)
    have w2 := wrap_nat nc (by omega)
    have hbytes : ¬ ((i.bytes : Int) * (nc : Int) > 2 ^ 48) := by
      intro hgt
      have h2 : i.bytes * nc ≤ 1048576 * 100000 := Nat.mul_le_mul e4 (Nat.le_of_lt b2)
      have h3 : (i.bytes : Int) * (nc : Int) ≤ ((1048576 * 100000 : Nat) : Int) := by rw [← Int.natCast_mul]; exact Int.ofNat_le.2 h2
      exact absurd (Int.lt_of_lt_of_le hgt h3) (by decide)
    have hcond : ((decide ((nc : Int) < 0) || decide ((i.bytes : Int) * (nc : Int) > 2 ^ 48)) || decide ((nl : Int) < 0) || decide ((nl : Int) > (nc : Int))) = false := by
      simp only [Bool.or_eq_false_iff, decide_eq_false_iff_not]
      refine ⟨⟨⟨by omega, hbytes⟩, by omega⟩, by omega⟩
    simp only [Instr.makeSlice, Sem.run_bind, run_underlying ht, Result.andThen_ok, asInt, asIntOf, Sem.run_pure, run_typeInfo e1, w1, w2]
    rw [if_neg (by rw [hcond]; simp)]
    simp only [Sem.run_bind, run_askRoom, Result.andThen_ok, run_sizeOf e5, Int.toNat_natCast]
    by_cases hn0 : nc * sz = 0
    · have hn : nc = 0 := (Nat.mul_eq_zero.1 hn0).resolve_right e3
      subst hn
      simp [newRow, ad]
      have hz1 : ∀ f : Nat → Value, (Array.range 0).map f = #[] := fun f => Array.ext' (by simp)
      rw [hz1, hz1]
    · simp only [if_neg hn0, Sem.run_bind, g1, Result.andThen_ok, Sem.run_pure]
      simp [newRow, ad]

theorem snd_mkm (hw : WR Pr B w0 ρ h w) (t : TypeId) (r : Option Value) (hr : r = none ∨ (∃ k e, Pr.underlying t = some (.map k e)) ∧ ∃ k n, r = some (.int k n)) :
    Snd Pr B w0 ρ h w ((do pure (.value (← Instr.makeMap t r)) : Sem Next).run Pr w) (iMkm h) := by
  have hm : WR Pr B w0 (upd ρ h.nxt ⟨w.heap.size, 0, 0, 0⟩) (h.new (.map [] 0)) { w with heap := w.heap.push (.map #[] 0) } := hw.alloc rfl rfl rfl rfl rfl ⟨#[], rfl, .nil⟩
  refine ⟨_, .map (some w.heap.size), _, .inl ?_, .map (upd_same ρ h.nxt ⟨w.heap.size, 0, 0, 0⟩), hm, hw.evo_alloc _ _⟩
  rcases hr with rfl | ⟨⟨k, e, ht⟩, k', n, rfl⟩
  · simp [Instr.makeMap]
  · simp [Instr.makeMap, underlying, ht, asInt, asIntOf]

end
end Go.Proofs.YtlklnffmhclioaaGreatDoor.Ev

namespace Go.Proofs.YtlklnffmhclioaaGreatDoor.Ev
open Go.RowKit

section
variable {Pr : Program} {B : Nat} {w0 w : World} {ρ : En} {h : AH}

theorem growBy_le (m : Nat) : ∀ (r c : Nat), c ≤ 2 * m + 192 → Builtin.growBy m r c ≤ 2 * m + 192
  | 0, c, hc => by simpa [Builtin.growBy] using hc
  | r + 1, c, hc => by
    unfold Builtin.growBy
    split
    · exact hc
    · exact growBy_le m r _ (by omega)
theorem nextslicecap_le {need cap : Nat} (hc : cap < need) : Builtin.nextslicecap need cap ≤ 2 * need + 192 := by
  unfold Builtin.nextslicecap
  split
  · omega
  · split
    · omega
    · exact growBy_le need 4 cap (by omega)

theorem appE_new (hw : WR Pr B w0 ρ h w) {el : TypeId} {sz : Nat} {cap need : Nat} (hcap : need ≤ cap) {l : List AV} {cs : Array Value} (hl : VL Pr ρ l (cs.toList.take l.length)) (hll : l.length = need * sz)
    (h1 : ∀ v ∈ cs.toList, v.oneCell' = true) (hsz : cs.size = cap * sz) {w' : World} (hh : w'.heap = w.heap.push (.cells cs el)) (e1 : w'.os = w.os) (e2 : w'.tape = w.tape) (e3 : w'.output = w.output) :
    WR Pr B w0 (upd ρ h.nxt ⟨w.heap.size, 0, cap, sz⟩) (h.new (.cells true l)) w' ∧ Evo ρ (upd ρ h.nxt ⟨w.heap.size, 0, cap, sz⟩) h (h.new (.cells true l)) := by
  have hn : ρ h.nxt = none := (hw.fresh _ (Nat.le_refl _)).1
  have hle : need * sz ≤ cap * sz := Nat.mul_le_mul_right _ hcap
  refine ⟨hw.alloc rfl hh e1 e2 e3 ?_, hw.evo_alloc _ _⟩
  refine ⟨cs, el, (0, 0), rfl, ?_, fun _ i _ => by simp, fun _ => by simp; omega, by simp; omega, fun _ => by simp; omega⟩
  intro i a hi
  obtain ⟨v, g1, g2⟩ := hl.get hi
  have hlt : i < l.length := (List.getElem?_eq_some_iff.1 hi).1
  rw [List.getElem?_take, if_pos hlt] at g1
  refine ⟨v, by simpa using g1, g2.mono (.upd _ hn), h1 v (List.mem_of_getElem? g1)⟩

/-- in place, in a row whose room nobody knew: the elder block is given up -/
theorem appE_over (hw : WR Pr B w0 ρ h w) {p : P} {e : BE} (hp : ρ p = some e) {cs : List AV} (hc : h.get p = .cells true cs) {off len n g sz : Nat} (hsz : e.sz = sz) (ho : off = g * sz) (hroom : g + (len + n) ≤ e.cap)
    {old new : List AV} (hold : slabL (len * sz) (dropL off cs) = some old) (hne : off ≤ cs.length) {nv : Array Value} (hv : VL Pr ρ new nv.toList) (hnl : new.length = n * sz) (h1 : ∀ v ∈ nv.toList, v.oneCell' = true) :
    ∃ w', (storeCells (ad e (off + len * sz)) nv.toList).run Pr w = .ok () w' ∧
      WR Pr B w0 (upd ρ h.nxt ⟨e.a, e.off + off, e.cap - g, sz⟩) ((h.set p .none).new (.cells true (old ++ new))) w' ∧
      Evo ρ (upd ρ h.nxt ⟨e.a, e.off + off, e.cap - g, sz⟩) h ((h.set p .none).new (.cells true (old ++ new))) := by
  have hn := hw.fresh h.nxt (Nat.le_refl _)
  have hO := hw.obj p e hp
  rw [hc] at hO
  obtain ⟨c, t, fz, o1, o2, o3, o4, o5, o6⟩ := hO
  obtain ⟨s1, s2⟩ := slab_drop hold (.inr hne)
  have hnv : nv.toList.length = n * sz := by rw [← hv.length, hnl]
  have hcapsz : e.off + e.cap * sz ≤ c.size := by rw [← hsz]; exact o4 rfl
  have hroomsz : (g + (len + n)) * sz ≤ e.cap * sz := Nat.mul_le_mul_right _ hroom
  have hexp : (g + (len + n)) * sz = off + len * sz + n * sz := by rw [ho, Nat.add_mul, Nat.add_mul]; omega
  obtain ⟨w', c', k1, k2, k3, k4, k5, k6, k7, k8, k9⟩ := run_storeCells Pr e (off + len * sz) nv.toList 0 w c t fz o1 h1 (o3 rfl) (by omega)
  have hB := hw.own p e hp (by rw [hc]; rfl)
  have hlive : (h.get p).live = true := by rw [hc]; rfl
  have hown : (h.get p).own = true := by rw [hc]; rfl
  have hpn : p ≠ h.nxt := fun q => by rw [q, hn.1] at hp; cases hp
  have get' : ∀ q, q ≠ h.nxt → q ≠ p → ((h.set p .none).new (.cells true (old ++ new))).get q = h.get q := by
    intro q q1 q2; rw [AH.get_new, AH.nxt_set, if_neg q1, AH.get_set, if_neg q2]
  have getp : ((h.set p .none).new (.cells true (old ++ new))).get p = .none := by
    rw [AH.get_new, AH.nxt_set, if_neg hpn, AH.get_set, if_pos rfl]
  have getn : ((h.set p .none).new (.cells true (old ++ new))).get h.nxt = .cells true (old ++ new) := by
    rw [AH.get_new, AH.nxt_set, if_pos rfl]
  refine ⟨w', k1, ?_, ?_⟩
  · refine ⟨hw.below.trans ⟨k7, k8, k9, by omega, fun k hk => k5 k (by omega)⟩, by have := hw.base; omega, ?_, ?_, ?_, ?_, ?_, hw.q0⟩
    · intro q e' hq
      by_cases hqn : q = h.nxt
      · subst hqn
        rw [upd_same] at hq; cases hq
        rw [getn]
        refine ⟨c', t, fz, k2, ?_, fun _ => by rw [k3]; exact o3 rfl, fun _ => ?_, ?_, fun _ => ?_⟩
        · intro i a hi
          rw [k4]
          have hlo : old.length = len * sz := by rw [s1]; simp; omega
          by_cases hio : i < old.length
          · rw [List.getElem?_append_left hio] at hi
            rw [if_neg (by show ¬ (_ ≤ e.off + off + i ∧ _); omega)]
            rw [s1] at hi
            rw [List.getElem?_take, if_pos (by omega), List.getElem?_drop] at hi
            obtain ⟨v, m1, m2, m3⟩ := o2 (off + i) a hi
            exact ⟨v, by rw [← m1]; congr 1; show e.off + off + i = _; omega, m2.mono (.upd _ hn.1), m3⟩
          · rw [List.getElem?_append_right (by omega)] at hi
            have hlt := (List.getElem?_eq_some_iff.1 hi).1
            rw [if_pos (by show _ ≤ e.off + off + i ∧ e.off + off + i < _; omega)]
            obtain ⟨v, m1, m2⟩ := hv.get hi
            refine ⟨v, ?_, m2.mono (.upd _ hn.1), h1 v (List.mem_of_getElem? m1)⟩
            rw [← m1]; congr 1; show e.off + off + i - _ = _; omega
        · show e.off + off + (e.cap - g) * sz ≤ c'.size
          rw [k3, Nat.sub_mul, ← ho]; omega
        · show e.off + off + (old ++ new).length ≤ c'.size
          rw [k3, List.length_append, hnl, s1]; simp; omega
        · show (old ++ new).length ≤ (e.cap - g) * sz
          rw [Nat.sub_mul, List.length_append, hnl, s1, ← ho]; simp; omega
      · rw [upd_ne hqn] at hq
        by_cases hqp : q = p
        · subst hqp; rw [getp]; trivial
        · rw [get' q hqn hqp]
          cases hl : (h.get q).live with
          | false => cases hx : h.get q <;> simp_all [AObj.live, O]
          | true =>
            have hne := hw.sep p q e e' (Ne.symm hqp) hp hq hown hl
            rw [k5 _ (Ne.symm hne)]
            exact (hw.obj q e' hq).mono (.upd _ hn.1)
    · intro q e' hq
      rw [k6]
      by_cases hqn : q = h.nxt
      · subst hqn; rw [upd_same] at hq; cases hq; exact hw.bnd p e hp
      · rw [upd_ne hqn] at hq; exact hw.bnd q e' hq
    · intro q e' hq ho'
      by_cases hqn : q = h.nxt
      · subst hqn; rw [upd_same] at hq; cases hq; exact hB
      · rw [upd_ne hqn] at hq
        by_cases hqp : q = p
        · subst hqp; rw [getp] at ho'; cases ho'
        · rw [get' q hqn hqp] at ho'; exact hw.own q e' hq ho'
    · intro q r e1 e2 hqr hq hr ho' hl
      by_cases hqn : q = h.nxt
      · subst hqn; rw [upd_same] at hq; cases hq
        rw [upd_ne (Ne.symm hqr)] at hr
        by_cases hrp : r = p
        · subst hrp; rw [getp] at hl; cases hl
        · rw [get' r (Ne.symm hqr) hrp] at hl
          exact hw.sep p r e e2 (Ne.symm hrp) hp hr hown hl
      · rw [upd_ne hqn] at hq
        by_cases hqp : q = p
        · subst hqp; rw [getp] at ho'; cases ho'
        · rw [get' q hqn hqp] at ho'
          by_cases hrn : r = h.nxt
          · subst hrn; rw [upd_same] at hr; cases hr
            exact hw.sep q p e1 e hqp hq hp ho' hlive
          · rw [upd_ne hrn] at hr
            by_cases hrp : r = p
            · subst hrp; rw [getp] at hl; cases hl
            · rw [get' r hrn hrp] at hl
              exact hw.sep q r e1 e2 hqr hq hr ho' hl
    · intro q hq
      rw [AH.nxt_new, AH.nxt_set, P.toNat_succ] at hq
      have hqn : q ≠ h.nxt := fun hh => by subst hh; omega
      obtain ⟨g1, g2⟩ := hw.fresh q (by omega)
      refine ⟨by rw [upd_ne hqn]; exact g1, ?_⟩
      have hqp : q ≠ p := fun hh => by subst hh; rw [hp] at g1; cases g1
      rw [get' q hqn hqp]; exact g2
  · refine ⟨.upd _ hn.1, by rw [AH.nxt_new, AH.nxt_set, P.toNat_succ]; omega, fun q hq hqn => ?_⟩
    have h2 : q ≠ h.nxt := fun hh => by subst hh; omega
    have h3 : q ≠ p := fun hh => by subst hh; rw [hp] at hqn; cases hqn
    exact ⟨by rw [upd_ne h2]; exact hqn, get' q h2 h3⟩


/-- what is appended: the elements of a slice or a string, or zeros -/
def APX (Pr : Program) (w : World) (ats : Array TypeId) (el : TypeId) (sz : Nat) (xv : Value) (n : Nat) (nv : Array Value) : Prop :=
  ((∀ u, ats[1]? = some u → ∃ d, Pr.underlying u = some d ∧ ∀ k, d ≠ .int k) ∧ (Builtin.lenOf xv).run Pr w = .ok n w ∧ ∀ w' : World, w'.heap = w.heap → (Builtin.firstCells sz n xv).run Pr w' = .ok nv w') ∨
  (∃ u k k' i zv, ats[1]? = some u ∧ Pr.underlying u = some (.int k) ∧ xv = .int k' (Int.ofNat n) ∧ n < 100000 ∧ Pr.info? el = some i ∧ i.bytes ≤ 1048576 ∧ sz ≠ 0 ∧
    (∀ w' : World, (zeroValue el).run Pr w' = .ok zv w') ∧ zv.cells.size = sz ∧ nv = (Array.range (n * sz)).map fun i => zv.cells[i % zv.cells.size]!)

theorem mul_small {a b : Nat} (ha : a ≤ 1048576) (hb : b ≤ 100000) : ¬ ((b : Int) * (a : Int) > 2 ^ 48) := by
  intro hgt
  have h2 : b * a ≤ 100000 * 1048576 := Nat.mul_le_mul hb ha
  have h3 : (b : Int) * (a : Int) ≤ ((100000 * 1048576 : Nat) : Int) := by rw [← Int.natCast_mul]; exact Int.ofNat_le.2 h2
  exact absurd (Int.lt_of_lt_of_le hgt h3) (by decide)

theorem isIntMatch {d : TypeDesc} (h : ∀ k, d ≠ .int k) : (match d with | .int _ => true | _ => false) = false := by
  cases d <;> first | rfl | exact absurd rfl (h _)

/-- in place -/
theorem run_append_in {st el : TypeId} {sz : Nat} (ht : Pr.underlying st = some (.slice el)) (hs : tSz Pr el = some sz) {ats : Array TypeId} (h0 : ats[0]? = some st) (ty : TypeId) {base : Option Addr} {sLen sCap n : Nat} {xv : Value} {nv : Array Value}
    (hx : APX Pr w ats el sz xv n nv) (hle : sLen + n ≤ sCap) :
    (Builtin.append_ ats ty #[.slice base sLen sCap, xv]).run Pr w =
      ((match base with | some a => storeCells (a.add (sLen * sz)) nv.toList | none => pure () : Sem Unit).run Pr w).andThen fun _ w' => .ok (.slice base (sLen + n) sCap) w' := by
  rcases hx with ⟨hu, hl, hf⟩ | ⟨u, k, k', i, zv, hu, hk, rfl, hn, hi, hb, hz0, hzv, hzs, rfl⟩
  · have e0 : (#[Value.slice base sLen sCap, xv])[0]? = some (Value.slice base sLen sCap) := rfl
    have e1 : (#[Value.slice base sLen sCap, xv])[1]? = some xv := rfl
    unfold Builtin.append_
    cases h1 : ats[1]? with
    | none =>
      simp only [h0, e0, e1, Sem.run_bind, run_underlying ht, Result.andThen_ok, run_sizeOf hs, Sem.run_pure, Bool.false_eq_true, if_false, hl, Bool.not_false, if_true, if_pos hle, hf w rfl]
      cases base <;> simp
    | some u =>
      obtain ⟨d, hd, hk⟩ := hu u h1
      cases d <;> first
        | exact absurd rfl (hk _)
        | (simp only [h0, e0, e1, Sem.run_bind, run_underlying ht, run_underlying hd, Result.andThen_ok, run_sizeOf hs, Sem.run_pure, Bool.false_eq_true, if_false, hl, Bool.not_false, if_true, if_pos hle, hf w rfl]
           cases base <;> simp)
  · have e0 : (#[Value.slice base sLen sCap, Value.int k' (Int.ofNat n)])[0]? = some (Value.slice base sLen sCap) := rfl
    have e1 : (#[Value.slice base sLen sCap, Value.int k' (Int.ofNat n)])[1]? = some (Value.int k' (Int.ofNat n)) := rfl
    have w1 := wrap_nat n (by omega)
    have hneg : ¬ ((n : Int) < 0) := by omega
    have hbig : ¬ ((n : Int) * (i.bytes : Int) > 2 ^ 48) := mul_small hb (by omega)
    unfold Builtin.append_
    by_cases hn0 : n * sz = 0
    · have hn0' : n = 0 := (Nat.mul_eq_zero.1 hn0).resolve_right hz0
      subst hn0'
      simp only [h0, e0, e1, Sem.run_bind, run_underlying ht, Result.andThen_ok, run_sizeOf hs, hu, run_underlying hk, Sem.run_pure, if_true, asInt, asIntOf, w1, hneg, if_false, run_typeInfo hi, hbig, Int.toNat_natCast, if_pos hle, Bool.not_true, Bool.false_eq_true, hn0]
      cases base <;> simp
    · simp only [h0, e0, e1, Sem.run_bind, run_underlying ht, Result.andThen_ok, run_sizeOf hs, hu, run_underlying hk, Sem.run_pure, if_true, asInt, asIntOf, w1, hneg, if_false, run_typeInfo hi, hbig, Int.toNat_natCast, if_pos hle, Bool.not_true, Bool.false_eq_true, if_neg hn0, hzv]
      simp only [Builtin.zeroCells, hzs]
      cases base <;> simp

/-- in a new row -/
theorem run_append_new {st el : TypeId} {sz : Nat} (ht : Pr.underlying st = some (.slice el)) (hel : tEl Pr el = some sz) {ats : Array TypeId} (h0 : ats[0]? = some st) (ty : TypeId) {base : Option Addr} {sLen sCap n : Nat} {xv : Value} {nv old : Array Value}
    (hx : APX Pr w ats el sz xv n nv) (hgt : ¬ sLen + n ≤ sCap) (hsm : sLen + n ≤ 1000000) (hold : ∀ w' : World, w'.heap = w.heap → (Builtin.firstCells sz sLen (.slice base sLen sCap)).run Pr w' = .ok old w') :
    ∃ cap zv, sLen + n ≤ cap ∧ (∀ w' : World, (zeroValue el).run Pr w' = .ok zv w') ∧ zv.cells.size = sz ∧ (∀ u ∈ zv.cells.toList, u.oneCell' = true) ∧
    (Builtin.append_ ats ty #[.slice base sLen sCap, xv]).run Pr w =
      .ok (.slice (some ⟨w.heap.size, 0, none⟩) (sLen + n) cap)
        { w with heap := w.heap.push (.cells (old ++ nv ++ Builtin.zeroCells zv.cells (cap - (sLen + n))) el), drawn := w.drawn + 1 } := by
  obtain ⟨ii, zz, q1, q2, q3, q4, q5, q6⟩ := tEl_spec hel
  have hzz : ∃ zv, (∀ w' : World, (zeroValue el).run Pr w' = .ok zv w') ∧ zv.cells.size = sz ∧ (∀ u ∈ zv.cells.toList, u.oneCell' = true) := by
    obtain ⟨v, m, g1, k1, k2, k3, k4, k5⟩ := run_zc (w := w) (ρ := fun _ => none) q6
    rw [q5] at k3; cases k3
    refine ⟨v, fun w' => ?_, k5, k2⟩
    simp only [zeroValue, Sem.run_bind, run_typeInfo q1, Result.andThen_ok] at g1 ⊢
    cases hz : ii.zero with
    | none => rw [hz] at g1; simp at g1
    | some u => rw [hz] at g1; simp at g1 ⊢; exact g1
  obtain ⟨zv', hzv', hzs', hone⟩ := hzz
  have hcapb := nextslicecap_le (need := sLen + n) (cap := sCap) (by omega)
  have hbig2 : ¬ (Builtin.nextslicecap (sLen + n) sCap * ii.bytes > 2 ^ 48) := by
    have : Builtin.nextslicecap (sLen + n) sCap * ii.bytes ≤ 2000192 * 1048576 := Nat.mul_le_mul (by omega) q4
    have h2 : 2000192 * 1048576 ≤ 2 ^ 48 := by decide
    omega
  have hmax : ¬ (((sLen + n : Nat) : Int) > IntKind.i64.max) := by
    have : IntKind.i64.max = 9223372036854775807 := by decide
    rw [this]; omega
  have hforced : (Question.appendCap (sLen + n) sCap el).forced = false := rfl
  refine ⟨(Question.appendCap (sLen + n) sCap el).cut (w.tape w.drawn (.appendCap (sLen + n) sCap el)), zv', by simp [Question.cut], hzv', hzs', hone, ?_⟩
  rcases hx with ⟨hu, hl, hf⟩ | ⟨u, k, k', i, zv, hu, hk, rfl, hn, hi, hb, hz0, hzv, hzs, rfl⟩
  · have e0 : (#[Value.slice base sLen sCap, xv])[0]? = some (Value.slice base sLen sCap) := rfl
    have e1 : (#[Value.slice base sLen sCap, xv])[1]? = some xv := rfl
    have f1 := hold { w with drawn := w.drawn + 1 } rfl
    have f2 := hf { w with drawn := w.drawn + 1 } rfl
    unfold Builtin.append_
    cases h1 : ats[1]? with
    | none =>
      simp only [h0, e0, e1, Sem.run_bind, run_underlying ht, Result.andThen_ok, run_sizeOf q5, Sem.run_pure, Bool.false_eq_true, if_false, hl, Bool.not_false, if_true, if_neg hgt, run_typeInfo q1, hmax, false_and, hbig2, run_choose, hforced, run_askRoom, f1, f2, hzv', newRow, run_newObj]
    | some u =>
      obtain ⟨d, hd, hk⟩ := hu u h1
      cases d <;> first
        | exact absurd rfl (hk _)
        | (simp only [h0, e0, e1, Sem.run_bind, run_underlying ht, run_underlying hd, Result.andThen_ok, run_sizeOf q5, Sem.run_pure, Bool.false_eq_true, if_false, hl, Bool.not_false, if_true, if_neg hgt, run_typeInfo q1, hmax, false_and, hbig2, run_choose, hforced, run_askRoom, f1, f2, hzv', newRow, run_newObj])
  · have e0 : (#[Value.slice base sLen sCap, Value.int k' (Int.ofNat n)])[0]? = some (Value.slice base sLen sCap) := rfl
    have e1 : (#[Value.slice base sLen sCap, Value.int k' (Int.ofNat n)])[1]? = some (Value.int k' (Int.ofNat n)) := rfl
    have f1 := hold { w with drawn := w.drawn + 1 } rfl
    have w1 := wrap_nat n (by omega)
    have hneg : ¬ ((n : Int) < 0) := by omega
    have hbig : ¬ ((n : Int) * (i.bytes : Int) > 2 ^ 48) := mul_small hb (by omega)
    have hii : i = ii := by rw [hi] at q1; cases q1; rfl
    subst hii
    have hzvv : zv = zv' := by
      have e1 := hzv w; rw [hzv' w] at e1; cases e1; rfl
    subst hzvv
    unfold Builtin.append_
    by_cases hn0 : n * sz = 0
    · have hn0' : n = 0 := (Nat.mul_eq_zero.1 hn0).resolve_right hz0
      subst hn0'
      simp only [h0, e0, e1, Sem.run_bind, run_underlying ht, Result.andThen_ok, run_sizeOf q5, hu, run_underlying hk, Sem.run_pure, if_true, asInt, asIntOf, w1, hneg, if_false, run_typeInfo hi, hbig, Int.toNat_natCast, if_neg hgt, Bool.not_true, Bool.false_eq_true, hmax, false_and, hbig2, run_choose, hforced, run_askRoom, f1, hn0, hzv', newRow, run_newObj]
      have hz2 : ∀ f : Nat → Value, (Array.range 0).map f = #[] := fun f => Array.ext' (by simp)
      simp only [hz2]
    · simp only [h0, e0, e1, Sem.run_bind, run_underlying ht, Result.andThen_ok, run_sizeOf q5, hu, run_underlying hk, Sem.run_pure, if_true, asInt, asIntOf, w1, hneg, if_false, run_typeInfo hi, hbig, Int.toNat_natCast, if_neg hgt, Bool.not_true, Bool.false_eq_true, hmax, false_and, hbig2, run_choose, hforced, run_askRoom, f1, if_neg hn0, hzv', newRow, run_newObj]
      simp only [Builtin.zeroCells, hzs]

end
end Go.Proofs.YtlklnffmhclioaaGreatDoor.Ev

namespace Go.Proofs.YtlklnffmhclioaaGreatDoor.Ev
open Go.RowKit

section
variable {Pr : Program} {B : Nat} {w0 w : World} {ρ : En} {h : AH}

theorem cell_heap {w w' : World} (hh : w'.heap = w.heap) (a : Addr) : w'.cell? a = w.cell? a := by simp [World.cell?, hh]

/-- the machine's address of a slice that is not empty -/
theorem addrG {e : BE} {alt off len g : Nat} (hl : g + len ≤ e.cap) (h0 : len ≠ 0) : (if e.cap = g then alt else off) = off := if_neg (by omega)

theorem lenA_sound {x : AV} {xv : Value} (hx : V Pr ρ x xv) {n : Nat} (hn : lenA x = some n) : (Builtin.lenOf xv).run Pr w = .ok n w := by
  cases hx <;> simp only [lenA] at hn <;> first | cases hn; done | skip
  · rename_i s b hb
    cases hn; subst hb; simp [Builtin.lenOf, bytesA_len]
  · cases hn; rfl
  · cases hn; rfl
  · cases hn; rfl

theorem elems_sound (hw : WR Pr B w0 ρ h w) {x : AV} {xv : Value} (hx : V Pr ρ x xv) {n m sz : Nat} (hm : lenA x = some m) (hnm : n ≤ m) {new : List AV} (he : elems h sz n x = some new) :
    ∃ nv : Array Value, (∀ w' : World, w'.heap = w.heap → (Builtin.firstCells sz n xv).run Pr w' = .ok nv w') ∧ VL Pr ρ new nv.toList ∧ (∀ v ∈ nv.toList, v.oneCell' = true) ∧ new.length = n * sz := by
  have slice : ∀ {p : P} {e : BE} {off : Nat} {a : Addr}, ρ p = some e → (n ≠ 0 → a = ad e off) → (match h.get p with | .cells _ cs => slabL (n * sz) (dropL off cs) | _ => none) = some new →
      ∃ nv : Array Value, (∀ w' : World, w'.heap = w.heap → (loadCells a (n * sz)).run Pr w' = .ok nv w') ∧ VL Pr ρ new nv.toList ∧ (∀ v ∈ nv.toList, v.oneCell' = true) ∧ new.length = n * sz := by
    intro p e off a hp ha hs
    split at hs
    · rename_i own cs hc
      by_cases h0 : n * sz = 0
      · rw [h0] at hs ⊢
        have : new = [] := by have q : slabL 0 (dropL off cs) = some [] := rfl
                              rw [q] at hs; cases hs; rfl
        subst this
        exact ⟨#[], fun w' _ => by simp [loadCells, loadCellsFrom], .nil, by simp, rfl⟩
      · have hn0 : n ≠ 0 := fun q => h0 (by rw [q, Nat.zero_mul])
        obtain ⟨g1, g2⟩ := slab_drop hs (.inl h0)
        obtain ⟨vs, k1, k2, k3, k4⟩ := hw.cells hp hc g2
        refine ⟨vs.toArray, fun w' hh => ?_, by rw [g1]; simpa using k2, by simpa using k3, by rw [g1]; simp; omega⟩
        have := run_loadCells (P := Pr) (w := w') (a := ad e off) (vs := vs) (fun k v hk => by rw [cell_heap hh]; exact k4 k v hk)
        rw [k1] at this
        rw [ha hn0]; exact this
    · cases hs
  cases hx with
  | sl0 =>
    simp only [elems] at he
    cases he
    simp only [lenA] at hm; cases hm
    have : n = 0 := by omega
    subst this
    exact ⟨#[], fun w' _ => by simp [Builtin.firstCells], .nil, by simp, by simp⟩
  | slE hp hl =>
    simp only [elems] at he
    obtain ⟨nv, g1, g2⟩ := slice (a := ad _ _) hp (fun _ => rfl) he
    exact ⟨nv, fun w' hh => by simpa [Builtin.firstCells] using g1 w' hh, g2⟩
  | slG hp hsz ho hl =>
    rename_i p alt off len g gs e
    simp only [elems] at he
    simp only [lenA] at hm; cases hm
    obtain ⟨nv, g1, g2⟩ := slice (a := ad e (if e.cap = g then alt else off)) hp (fun h0 => by rw [addrG hl (by omega)]) he
    exact ⟨nv, fun w' hh => by simpa [Builtin.firstCells] using g1 w' hh, g2⟩
  | str hb =>
    rename_i s b
    simp only [elems] at he
    cases hs1 : Nat.beq sz 1 with
    | false => rw [hs1] at he; cases he
    | true =>
      have := Nat.eq_of_beq_eq_true hs1
      subst this
      rw [hs1] at he
      simp only [cond_true, Option.some.injEq] at he
      subst he; subst hb
      simp only [lenA] at hm; cases hm
      refine ⟨(b.extract 0 n).data.map fun c => .int .u8 c.toNat, fun w' _ => by simp [Builtin.firstCells], ?_, ?_, ?_⟩
      · refine VL.of_get ?_ fun k a ha => ?_
        · simp [bytesA]
        · simp only [bytesA, List.getElem?_map, List.getElem?_take] at ha
          simp only [ByteArray.data_extract, Array.toList_map, Array.toList_extract, List.getElem?_map, List.extract_eq_take_drop, List.drop_zero, Nat.sub_zero, List.getElem?_take]
          split at ha
          · rename_i hk
            rw [if_pos hk]
            cases hg : b.data.toList[k]? with
            | none => rw [hg] at ha; cases ha
            | some c =>
              rw [hg] at ha; cases ha
              exact ⟨_, rfl, .int _ _⟩
          · cases ha
      · intro v hv
        simp only [Array.toList_map, List.mem_map] at hv
        obtain ⟨c, _, rfl⟩ := hv; rfl
      · simp [bytesA_len] at hnm ⊢; omega
  | _ => simp [elems] at he

theorem snd_appE (hw : WR Pr B w0 ρ h w) {st el : TypeId} {sz : Nat} (ht : Pr.underlying st = some (.slice el)) (hel : tEl Pr el = some sz) {ats : Array TypeId} (h0 : ats[0]? = some st) (ty : TypeId) {s : AV} {sv xv : Value} (hs : V Pr ρ s sv)
    {n : Nat} {new : List AV} {nv : Array Value} (hx : APX Pr w ats el sz xv n nv) (hv : VL Pr ρ new nv.toList) (h1 : ∀ v ∈ nv.toList, v.oneCell' = true) (hnl : new.length = n * sz) :
    Snd Pr B w0 ρ h w ((do pure (.value (← Builtin.append_ ats ty #[sv, xv])) : Sem Next).run Pr w) (appE h sz s new n) := by
  obtain ⟨ii, zz, q1, q2, q3, q4, q5, q6⟩ := tEl_spec hel
  have hnn : ρ h.nxt = none := (hw.fresh _ (Nat.le_refl _)).1
  have hnvl : nv.toList.length = n * sz := by rw [← hv.length, hnl]
  have fresh : ∀ {base : Option Addr} {sLen sCap : Nat} {old : List AV} {ov : Array Value}, ¬ sLen + n ≤ sCap → sLen + n ≤ 1000000 → (∀ w' : World, w'.heap = w.heap → (Builtin.firstCells sz sLen (.slice base sLen sCap)).run Pr w' = .ok ov w') →
      VL Pr ρ old ov.toList → (∀ v ∈ ov.toList, v.oneCell' = true) → old.length = sLen * sz →
      ∃ cap w', sLen + n ≤ cap ∧ (Builtin.append_ ats ty #[.slice base sLen sCap, xv]).run Pr w = .ok (.slice (some ⟨w.heap.size, 0, none⟩) (sLen + n) cap) w' ∧
        ∀ h2 : AH, h2.nxt = h.nxt → WR Pr B w0 ρ h2 w → WR Pr B w0 (upd ρ h.nxt ⟨w.heap.size, 0, cap, sz⟩) (h2.new (.cells true (old ++ new))) w' := by
    intro base sLen sCap old ov hgt hsm hold o1 o2 o3
    obtain ⟨cap, zv, c1, c2, c3, c4, c5⟩ := run_append_new ht hel h0 ty hx hgt hsm hold
    refine ⟨cap, _, c1, c5, fun h2 hn2 hw2 => ?_⟩
    have hovl : ov.size = sLen * sz := by have := o1.length; rw [o3] at this; simpa using this.symm
    have hnvs : nv.size = n * sz := by simpa using hnvl
    have hz := zeros_sound (Pr := Pr) (ρ := ρ) (z := (List.replicate zv.cells.size (AV.bool false))) (v := zv) (n := sz)
    rw [← hn2]
    refine (appE_new hw2 (el := el) (cap := cap) (need := sLen + n) c1 (cs := ov ++ nv ++ Builtin.zeroCells zv.cells (cap - (sLen + n))) ?_ ?_ ?_ ?_ (by rfl) (by rfl) (by rfl) (by rfl)).1
    · have : (ov ++ nv ++ Builtin.zeroCells zv.cells (cap - (sLen + n))).toList.take (old ++ new).length = ov.toList ++ nv.toList := by
        rw [Array.toList_append, Array.toList_append]
        rw [List.take_append_of_le_length (by simp; omega)]
        rw [List.take_of_length_le (by simp; omega)]
      rw [this]; exact o1.append hv
    · rw [List.length_append, o3, hnl, Nat.add_mul]
    · intro u hu
      simp only [Array.toList_append, List.mem_append] at hu
      rcases hu with (hu | hu) | hu
      · exact o2 u hu
      · exact h1 u hu
      · simp only [Builtin.zeroCells, Array.toList_map, List.mem_map] at hu
        obtain ⟨k, _, rfl⟩ := hu
        have hlt : k % zv.cells.size < zv.cells.size := Nat.mod_lt _ (by omega)
        rw [getElem!_pos zv.cells _ hlt]
        exact c4 _ (by simp)
    · simp only [Array.size_append, hovl, hnvs, Builtin.zeroCells, Array.size_map, Array.size_range, c3]
      rw [← Nat.add_mul, ← Nat.add_mul]; congr 1; omega
  unfold appE
  cases n with
  | zero =>
    have hnv0 : nv.toList = [] := by simpa using hnvl
    cases hs with
    | sl0 =>
      refine ⟨.slice none 0 0, .inl ?_, .sl0⟩
      rw [Sem.run_bind, run_append_in ht q5 h0 ty hx (by omega)]; simp
    | slE hp hl =>
      rename_i p alt off len c e
      refine ⟨_, .inl ?_, .slE hp hl⟩
      rw [Sem.run_bind, run_append_in ht q5 h0 ty hx (by omega), hnv0]; simp [storeCells]
    | slG hp hsz ho hl =>
      rename_i p alt off len g gs e
      refine ⟨_, .inl ?_, .slG hp hsz ho hl⟩
      rw [Sem.run_bind, run_append_in ht q5 h0 ty hx (by omega), hnv0]; simp [storeCells]
    | _ => trivial
  | succ n =>
    cases hs with
    | sl0 =>
      simp only
      cases hb : Nat.blt 1000000 (n + 1) with
      | true => trivial
      | false =>
        have hsm : n + 1 ≤ 1000000 := by
          cases Nat.lt_or_ge 1000000 (n + 1) with
          | inl q => rw [show Nat.blt 1000000 (n + 1) = true from Nat.ble_eq_true_of_le q] at hb; cases hb
          | inr q => exact q
        obtain ⟨cap, w', c1, c2, c3⟩ := fresh (base := none) (sLen := 0) (sCap := 0) (old := []) (ov := #[]) (by omega) (by omega) (fun w' _ => by simp [Builtin.firstCells]) .nil (by simp) (by simp)
        have hwr := c3 h rfl hw
        simp only [List.nil_append, Nat.zero_add] at hwr c1 c2
        refine ⟨_, .slice (some (ad ⟨w.heap.size, 0, cap, sz⟩ (if cap = 0 then 0 else 0))) (n + 1) (cap - 0), w', .inl ?_, ?_, hwr, hw.evo_alloc _ _⟩
        · rw [Sem.run_bind, c2]; simp [ad]
        · exact .slG (upd_same _ _ _) rfl (by simp) (by show 0 + (n + 1) ≤ cap; omega)
    | slE hp hl =>
      rename_i p alt off len c e
      simp only
      cases hc : h.get p with
      | cells own cs =>
        simp only
        cases hb : Nat.blt 1000000 (len + (n + 1)) with
        | true => trivial
        | false =>
          have hsm : len + (n + 1) ≤ 1000000 := by
            cases Nat.lt_or_ge 1000000 (len + (n + 1)) with
            | inl q => rw [show Nat.blt 1000000 (len + (n + 1)) = true from Nat.ble_eq_true_of_le q] at hb; cases hb
            | inr q => exact q
          simp only [cond_false]
          cases hle : Nat.ble (len + (n + 1)) c with
          | true =>
            have hle := Nat.le_of_ble_eq_true hle
            simp only [cond_true]
            cases hst : storeA h p (off + len * sz) new with
            | none => trivial
            | some h' =>
              obtain ⟨w', g1, g2, g3⟩ := hw.store hp hst hv h1
              refine ⟨ρ, _, w', .inl ?_, .slE hp hle, g2, g3⟩
              rw [Sem.run_bind, run_append_in ht q5 h0 ty hx hle]
              simp only [add_ad, g1, Result.andThen_ok]; rfl
          | false =>
            have hgt : ¬ len + (n + 1) ≤ c := fun q => by rw [Nat.ble_eq_true_of_le q] at hle; cases hle
            simp only [cond_false]
            cases hsl : slabL (len * sz) (dropL off cs) with
            | none => trivial
            | some old =>
              have he : elems h sz len (.sl p alt off len (.exact c)) = some old := by simp only [elems, hc, hsl]
              obtain ⟨ov, o1, o2, o3, o4⟩ := elems_sound hw (.slE hp hl) rfl (Nat.le_refl _) he
              obtain ⟨cap, w', c1, c2, c3⟩ := fresh hgt hsm o1 o2 o3 o4
              have hwr := c3 h rfl hw
              refine ⟨_, .slice (some (ad ⟨w.heap.size, 0, cap, sz⟩ (if cap = 0 then 0 else 0))) (len + (n + 1)) (cap - 0), w', .inl ?_, ?_, hwr, hw.evo_alloc _ _⟩
              · rw [Sem.run_bind, c2]; simp [ad]
              · exact .slG (upd_same _ _ _) rfl (by simp) (by show 0 + (len + (n + 1)) ≤ cap; omega)
      | _ => trivial
    | slG hp hsz ho hl =>
      rename_i p alt off len g gs e
      simp only
      cases hc : h.get p with
      | cells own cs =>
        simp only
        cases hb : Nat.blt 1000000 (len + (n + 1)) with
        | true => trivial
        | false =>
          have hsm : len + (n + 1) ≤ 1000000 := by
            cases Nat.lt_or_ge 1000000 (len + (n + 1)) with
            | inl q => rw [show Nat.blt 1000000 (len + (n + 1)) = true from Nat.ble_eq_true_of_le q] at hb; cases hb
            | inr q => exact q
          simp only [cond_false]
          cases hgs : Nat.beq gs sz with
          | false => trivial
          | true =>
            have hgs := Nat.eq_of_beq_eq_true hgs
            subst hgs
            simp only [cond_true]
            have hO := hw.obj p e hp
            rw [hc] at hO
            obtain ⟨cc, t, fz, o1, o2, o3, o4, o5, o6⟩ := hO
            cases hle : Nat.ble (off + (len + (n + 1)) * gs) cs.length with
            | true =>
              have hle := Nat.le_of_ble_eq_true hle
              simp only [cond_true]
              cases hst : storeA h p (off + len * gs) new with
              | none => trivial
              | some h' =>
                have h6 : cs.length ≤ e.cap * gs := by rw [← hsz]; exact o6 (by rw [hsz]; exact q3)
                have hroom : g + (len + (n + 1)) ≤ e.cap := by
                  have : (g + (len + (n + 1))) * gs ≤ e.cap * gs := by rw [Nat.add_mul, ← ho]; omega
                  exact Nat.le_of_mul_le_mul_right this (by omega)
                obtain ⟨w', g1, g2, g3⟩ := hw.store hp hst hv h1
                refine ⟨ρ, _, w', .inl ?_, .slG hp hsz ho hroom, g2, g3⟩
                rw [Sem.run_bind, run_append_in ht q5 h0 ty hx (by omega)]
                rw [if_neg (by omega : ¬ e.cap = g)]
                simp only [add_ad, g1, Result.andThen_ok]; rfl
            | false =>
              simp only [cond_false]
              cases hoo : (own && Nat.ble off cs.length) with
              | false => trivial
              | true =>
                simp only [Bool.and_eq_true] at hoo
                obtain ⟨how, hoff⟩ := hoo
                have hoff := Nat.le_of_ble_eq_true hoff
                subst how
                simp only [cond_true]
                cases hsl : slabL (len * gs) (dropL off cs) with
                | none => trivial
                | some old =>
                  simp only
                  by_cases hroom : g + (len + (n + 1)) ≤ e.cap
                  · obtain ⟨w', g1, g2, g3⟩ := appE_over hw hp hc hsz ho hroom hsl hoff hv hnl h1
                    refine ⟨_, .slice (some (ad ⟨e.a, e.off + off, e.cap - g, gs⟩ (if e.cap - g = 0 then 0 else 0))) (len + (n + 1)) (e.cap - g - 0), w', .inl ?_, ?_, g2, g3⟩
                    · rw [Sem.run_bind, run_append_in ht q5 h0 ty hx (by omega)]
                      rw [if_neg (by omega : ¬ e.cap = g)]
                      simp only [add_ad, g1, Result.andThen_ok]
                      simp [ad]
                    · exact .slG (upd_same _ _ _) rfl (by simp) (by show 0 + (len + (n + 1)) ≤ e.cap - g; omega)
                  · have he : elems h gs len (.sl p alt off len (.ghost g gs)) = some old := by simp only [elems, hc, hsl]
                    obtain ⟨ov, p1, p2, p3, p4⟩ := elems_sound hw (.slG hp hsz ho hl) rfl (Nat.le_refl _) he
                    obtain ⟨cap, w', c1, c2, c3⟩ := fresh (by omega) hsm p1 p2 p3 p4
                    have hwset : WR Pr B w0 ρ (h.set p .none) w := by
                      refine ⟨hw.below, hw.base, ?_, hw.bnd, ?_, ?_, ?_, hw.q0⟩
                      · intro q e' hq; rw [AH.get_set]; by_cases hqp : q = p
                        · rw [if_pos hqp]; trivial
                        · rw [if_neg hqp]; exact hw.obj q e' hq
                      · intro q e' hq hown; rw [AH.get_set] at hown; by_cases hqp : q = p
                        · rw [if_pos hqp] at hown; cases hown
                        · rw [if_neg hqp] at hown; exact hw.own q e' hq hown
                      · intro q r e1 e2 hqr hq hr hown hlv
                        rw [AH.get_set] at hown hlv
                        by_cases hqp : q = p
                        · rw [if_pos hqp] at hown; cases hown
                        · by_cases hrp : r = p
                          · rw [if_pos hrp] at hlv; cases hlv
                          · rw [if_neg hqp] at hown; rw [if_neg hrp] at hlv; exact hw.sep q r e1 e2 hqr hq hr hown hlv
                      · intro q hq; rw [AH.nxt_set] at hq; obtain ⟨f1, f2⟩ := hw.fresh q hq
                        refine ⟨f1, ?_⟩
                        rw [AH.get_set]; by_cases hqp : q = p
                        · rw [if_pos hqp]
                        · rw [if_neg hqp]; exact f2
                    have hwr := c3 (h.set p .none) rfl hwset
                    refine ⟨_, .slice (some (ad ⟨w.heap.size, 0, cap, gs⟩ (if cap = 0 then 0 else 0))) (len + (n + 1)) (cap - 0), w', .inl ?_, ?_, hwr, ?_⟩
                    · rw [Sem.run_bind, c2]; simp [ad]
                    · exact .slG (upd_same _ _ _) rfl (by simp) (by show 0 + (len + (n + 1)) ≤ cap; omega)
                    · exact (hw.evo_set hp .none).trans (hwset.evo_alloc _ _)
      | _ => trivial
    | _ => trivial

end
end Go.Proofs.YtlklnffmhclioaaGreatDoor.Ev

namespace Go.Proofs.YtlklnffmhclioaaGreatDoor.Ev
open Go.RowKit

section
variable {Pr : Program} {B : Nat} {w0 w : World} {ρ : En} {h : AH}

theorem eqCs_split : ∀ {g1 g2 : List Nat} {x y : List AV} {b : Bool}, eqCs (g1 ++ g2) x y = some b →
    ∃ b1, eqCs g1 (x.take g1.length) (y.take g1.length) = some b1 ∧ (b1 = false → b = false) ∧ (b1 = true → eqCs g2 (x.drop g1.length) (y.drop g1.length) = some b)
  | [], g2, x, y, b, h => ⟨true, by simp [eqCs], by simp, fun _ => by simpa using h⟩
  | k :: g1, g2, [], y, b, h => by cases y <;> simp [eqCs] at h
  | k :: g1, g2, a :: x, [], b, h => by simp [eqCs] at h
  | k :: g1, g2, a :: x, c :: y, b, h => by
    simp only [List.cons_append, eqCs] at h
    cases he : eq1 k a c with
    | none => rw [he] at h; cases h
    | some r =>
      rw [he] at h
      cases r with
      | false => cases h; exact ⟨false, by simp [eqCs, he], by simp, by simp⟩
      | true =>
        obtain ⟨b1, h1, h2, h3⟩ := eqCs_split h
        exact ⟨b1, by simpa [eqCs, he] using h1, h2, by simpa using h3⟩

def PV (Pr : Program) (ρ : En) (ag : Bool) (l : List AV) (v : Value) : Prop :=
  if ag then ∃ cs, v = .agg cs ∧ VL Pr ρ l cs.toList else ∃ a, l = [a] ∧ V Pr ρ a v

theorem PV.part {l : List AV} {cs : Array Value} (hl : VL Pr ρ l cs.toList) {t : TypeId} {off n : Nat} {ag : Bool} (ht : tAgg Pr t = some ag) (hn : tSz Pr t = some n) (h1 : ag = false → n = 1 ∧ ((l.drop off).take n) ≠ []) :
    ∃ v, (part t cs off).run Pr w = .ok v w ∧ PV Pr ρ ag ((l.drop off).take n) v := by
  cases ag with
  | true =>
    refine ⟨.agg (cs.extract off (off + n)), by simp [Go.part, run_isAgg ht, run_sizeOf hn], ?_⟩
    have hx : (cs.extract off (off + n)).toList = (cs.toList.drop off).take n := by simp
    exact ⟨_, rfl, by rw [hx]; exact (hl.drop off).take n⟩
  | false =>
    obtain ⟨hn1, hne⟩ := h1 rfl
    subst hn1
    cases hd : l.drop off with
    | nil => rw [hd] at hne; simp at hne
    | cons a r =>
      have ha : l[off]? = some a := by
        have := congrArg (fun x : List AV => x[0]?) hd
        simpa using this
      obtain ⟨v, k1, k2⟩ := hl.get ha
      have hv : cs[off]? = some v := by simpa using k1
      exact ⟨v, by simp [Go.part, run_isAgg ht, hv], a, by simp, k2⟩

theorem eq1_bool {t : TypeId} (ht : Pr.underlying t = some .bool) {x y : AV} {v u : Value} (hx : V Pr ρ x v) (hy : V Pr ρ y u) {b : Bool} (he : eq1 0 x y = some b) (d : Nat) : (Op.equalIn (d + 1) t v u).run Pr w = .ok b w := by
  cases hx <;> cases hy <;> simp only [eq1] at he <;> first | (cases he; done) | skip
  · rename_i a c
    simp only [Nat.beq_refl, cond_true, Option.some.injEq] at he
    subst he
    simp [Op.equalIn, run_underlying ht]
    cases a <;> cases c <;> rfl
theorem eq1_int {t : TypeId} {k : IntKind} (ht : Pr.underlying t = some (.int k)) {x y : AV} {v u : Value} (hx : V Pr ρ x v) (hy : V Pr ρ y u) {b : Bool} (he : eq1 1 x y = some b) (d : Nat) : (Op.equalIn (d + 1) t v u).run Pr w = .ok b w := by
  cases hx <;> cases hy <;> simp only [eq1] at he <;> first | (cases he; done) | skip
  · rename_i j a j' c
    simp only [Nat.beq_refl, cond_true, kEq_eq] at he
    by_cases hj : j = j'
    · subst hj
      simp only [decide_true, cond_true, Option.some.injEq, eqI_eq] at he
      subst he
      simp [Op.equalIn, run_underlying ht]
    · simp [hj] at he
theorem eq1_str {t : TypeId} (ht : Pr.underlying t = some .string) {x y : AV} {v u : Value} (hx : V Pr ρ x v) (hy : V Pr ρ y u) {b : Bool} (he : eq1 2 x y = some b) (d : Nat) : (Op.equalIn (d + 1) t v u).run Pr w = .ok b w := by
  cases hx <;> cases hy <;> simp only [eq1] at he <;> first | (cases he; done) | skip
  · rename_i s a hs s' c hs'
    simp only [Nat.beq_refl, cond_true, Option.some.injEq] at he
    subst hs hs' he
    rw [bytesA, bytesA, eqL_map, run_equalIn_string w d t a c ht, ByteArray.toList_eq, ByteArray.toList_eq]

theorem take_drop_split (l : List AV) (acc a b : Nat) : ((l.drop acc).take (a + b)).take a = (l.drop acc).take a ∧ ((l.drop acc).take (a + b)).drop a = (l.drop (acc + a)).take b := by
  constructor
  · rw [List.take_take, Nat.min_eq_left (by omega)]
  · rw [List.drop_take, List.drop_drop]; congr 1; omega

theorem eqArr_run (d : Nat) (e : TypeId) (sz : Nat) (cs ds : Array Value) (k : List Nat) (hs : tSz Pr e = some k.length) (l m : List AV) (hl : VL Pr ρ l cs.toList) (hm : VL Pr ρ m ds.toList)
    (step : ∀ i b, eqCs k ((l.drop (i * k.length)).take k.length) ((m.drop (i * k.length)).take k.length) = some b →
      ∃ v u, (part e cs (i * k.length)).run Pr w = .ok v w ∧ (part e ds (i * k.length)).run Pr w = .ok u w ∧ (Op.equalIn d e v u).run Pr w = .ok b w) :
    ∀ (n s : Nat) (b : Bool), eqCs (reps k n) ((l.drop (s * k.length)).take (reps k n).length) ((m.drop (s * k.length)).take (reps k n).length) = some b →
      ((forIn (List.range' s n) ((none, ()) : Option Bool × Unit) fun i _ => (do
          let __do_lift ← part e cs (i * k.length)
          let __do_lift_1 ← part e ds (i * k.length)
          let __do_lift ← Op.equalIn d e __do_lift __do_lift_1
          if (!__do_lift) = true then pure (ForInStep.done (some false, ())) else pure (ForInStep.yield (none, ()))) : Sem (Option Bool × Unit)).run Pr w =
        .ok (if b then none else some false, ()) w)
  | 0, s, b, h => by
    simp [reps, eqCs] at h
    subst h; simp
  | n + 1, s, b, h => by
    simp only [reps] at h
    obtain ⟨b1, h1, h2, h3⟩ := eqCs_split h
    simp only [List.length_append] at h1 h3
    rw [(take_drop_split l _ _ _).1, (take_drop_split m _ _ _).1] at h1
    obtain ⟨v, u, p1, p2, p3⟩ := step s b1 h1
    simp only [List.range'_succ, List.forIn_cons, Sem.run_bind, p1, p2, p3, Result.andThen_ok]
    cases b1 with
    | false =>
      have := h2 rfl
      subst this
      simp
    | true =>
      have h4 := h3 rfl
      rw [(take_drop_split l _ _ _).2, (take_drop_split m _ _ _).2, show s * k.length + k.length = (s + 1) * k.length from by rw [Nat.add_mul]; omega] at h4
      have ih := eqArr_run d e sz cs ds k hs l m hl hm step n (s + 1) b h4
      simp only [Bool.not_true, Bool.false_eq_true, if_false, Sem.run_pure, Result.andThen_ok]
      exact ih

def isAggD : TypeDesc → Bool
  | .struct _ | .array _ _ => true
  | _ => false
theorem tAgg_of {t : TypeId} {td : TypeDesc} (ht : Pr.underlying t = some td) : tAgg Pr t = some (isAggD td) := by
  unfold tAgg; rw [ht]; cases td <;> rfl

set_option maxHeartbeats 1000000 in
theorem eqT : ∀ (k : Nat), (∀ t tg, flatN Pr k t = some tg → ∀ d, k ≤ d → ∀ ag l m v u b, tAgg Pr t = some ag → PV Pr ρ ag l v → PV Pr ρ ag m u → eqCs tg l m = some b → (Op.equalIn d t v u).run Pr w = .ok b w) ∧
    (∀ fs acc tg, flatFs Pr k fs acc = some tg → ∀ d, k ≤ d → ∀ l m (cs ds : Array Value) b, VL Pr ρ l cs.toList → VL Pr ρ m ds.toList →
      eqCs tg ((l.drop acc).take tg.length) ((m.drop acc).take tg.length) = some b → (Op.eqFields d cs ds fs).run Pr w = .ok b w)
  | 0 => ⟨fun t tg h => by simp [flatN] at h, fun fs acc tg h => by simp [flatFs] at h⟩
  | k + 1 => by
    obtain ⟨ihN, ihF⟩ := eqT k
    have leaf1 : ∀ {tg : List Nat} {l m : List AV} {b : Bool} {c : Nat}, tg = [c] → (∃ a, l = [a]) → (∃ a, m = [a]) → eqCs tg l m = some b → ∃ x y, l = [x] ∧ m = [y] ∧ eq1 c x y = some b := by
      intro tg l m b c h1 ⟨x, h2⟩ ⟨y, h3⟩ h4
      subst h1 h2 h3
      simp only [eqCs] at h4
      refine ⟨x, y, rfl, rfl, ?_⟩
      cases he : eq1 c x y with
      | none => rw [he] at h4; cases h4
      | some r => rw [he] at h4; cases r <;> simpa using h4
    constructor
    · intro t tg hf d hd ag l m v u b ha hl hm he
      obtain ⟨d, rfl⟩ : ∃ d', d = d' + 1 := ⟨d - 1, by omega⟩
      unfold flatN at hf
      split at hf
      · rename_i ht
        rw [tAgg_of ht] at ha; cases ha; cases hf
        obtain ⟨x, hx, hxv⟩ := hl
        obtain ⟨y, hy, hyv⟩ := hm
        obtain ⟨x', y', e1, e2, e3⟩ := leaf1 rfl ⟨x, hx⟩ ⟨y, hy⟩ he
        subst hx hy; cases e1; cases e2
        exact eq1_bool ht hxv hyv e3 d
      · rename_i kk ht
        rw [tAgg_of ht] at ha; cases ha; cases hf
        obtain ⟨x, hx, hxv⟩ := hl
        obtain ⟨y, hy, hyv⟩ := hm
        obtain ⟨x', y', e1, e2, e3⟩ := leaf1 rfl ⟨x, hx⟩ ⟨y, hy⟩ he
        subst hx hy; cases e1; cases e2
        exact eq1_int ht hxv hyv e3 d
      · rename_i ht
        rw [tAgg_of ht] at ha; cases ha; cases hf
        obtain ⟨x, hx, hxv⟩ := hl
        obtain ⟨y, hy, hyv⟩ := hm
        obtain ⟨x', y', e1, e2, e3⟩ := leaf1 rfl ⟨x, hx⟩ ⟨y, hy⟩ he
        subst hx hy; cases e1; cases e2
        exact eq1_str ht hxv hyv e3 d
      · rename_i fs ht
        rw [tAgg_of ht] at ha; cases ha
        split at hf
        · cases hf
        · rename_i hst
          obtain ⟨cs, rfl, hcl⟩ := hl
          obtain ⟨ds, rfl, hdl⟩ := hm
          have hfo : Pr.fieldsOf t = fs := by simp [Program.fieldsOf, ht]
          rw [run_equalIn_struct w d t cs ds (by rw [hfo]; exact ht) (by simpa using hst), hfo]
          have hlen : ∀ {g : List Nat} {x y : List AV} {b : Bool}, eqCs g x y = some b → eqCs g (x.take g.length) (y.take g.length) = some b := by
            intro g
            induction g with
            | nil => intro x y b hh; cases x <;> cases y <;> simp_all [eqCs]
            | cons c g ih =>
              intro x y b hh
              cases x with
              | nil => cases y <;> simp [eqCs] at hh
              | cons a x =>
                cases y with
                | nil => simp [eqCs] at hh
                | cons a' y =>
                  simp only [List.length_cons, List.take_succ_cons, eqCs] at hh ⊢
                  cases hq : eq1 c a a' with
                  | none => rw [hq] at hh; cases hh
                  | some r => rw [hq] at hh; cases r with
                    | false => exact hh
                    | true => exact ih hh
          exact ihF fs.toList 0 tg hf d (by omega) l m cs ds b hcl hdl (by simpa using hlen he)
      · rename_i n e ht
        rw [tAgg_of ht] at ha; cases ha
        split at hf
        · rename_i kk hfe
          split at hf
          · rename_i hsz
            cases hf
            obtain ⟨cs, rfl, hcl⟩ := hl
            obtain ⟨ds, rfl, hdl⟩ := hm
            have hag : ∃ ag, tAgg Pr e = some ag ∧ (ag = false → kk.length = 1) := by
              cases k with
              | zero => simp [flatN] at hfe
              | succ k =>
                unfold flatN at hfe
                split at hfe
                · rename_i ht; cases hfe; exact ⟨_, tAgg_of ht, fun _ => rfl⟩
                · rename_i ht; cases hfe; exact ⟨_, tAgg_of ht, fun _ => rfl⟩
                · rename_i ht; cases hfe; exact ⟨_, tAgg_of ht, fun _ => rfl⟩
                · rename_i ht; exact ⟨_, tAgg_of ht, fun q => by cases q⟩
                · rename_i ht; exact ⟨_, tAgg_of ht, fun q => by cases q⟩
                · cases hfe
            obtain ⟨ag, ha, ha1⟩ := hag
            have hne : ∀ {x y : List AV} {b1 : Bool}, ag = false → eqCs kk x y = some b1 → x ≠ [] ∧ y ≠ [] := by
              intro x y b1 hagf hq
              have := ha1 hagf
              match kk, this with
              | [c], _ => cases x <;> cases y <;> simp_all [eqCs]
            have hlen : ∀ {g : List Nat} {x y : List AV} {b : Bool}, eqCs g x y = some b → eqCs g (x.take g.length) (y.take g.length) = some b := by
              intro g x y b hh
              obtain ⟨b1, q1, q2, q3⟩ := eqCs_split (g1 := g) (g2 := []) (by simpa using hh)
              rw [q1]
              cases b1 with
              | false => rw [q2 rfl]
              | true =>
                have := q3 rfl
                cases hx : x.drop g.length <;> cases hy : y.drop g.length <;> rw [hx, hy] at this <;> simp [eqCs] at this
                rw [this]
            have key := eqArr_run (w := w) d e kk.length cs ds kk hsz l m hcl hdl (fun i b' hb' => by
              obtain ⟨v, p1, p2⟩ := PV.part (w := w) hcl (off := i * kk.length) ha hsz (fun q => ⟨ha1 q, (hne q hb').1⟩)
              obtain ⟨u, p3, p4⟩ := PV.part (w := w) hdl (off := i * kk.length) ha hsz (fun q => ⟨ha1 q, (hne q hb').2⟩)
              exact ⟨v, u, p1, p3, ihN e kk hfe d (by omega) ag _ _ v u b' ha p2 p4 hb'⟩) n 0 b (by simpa using hlen he)
            simp only [Op.equalIn, Sem.run_bind, run_underlying ht, Result.andThen_ok, run_sizeOf hsz]
            simp only [Std.Legacy.Range.forIn_eq_forIn_range', Std.Legacy.Range.size, Nat.sub_zero, Nat.add_sub_cancel, Nat.div_one]
            rw [key]
            cases b <;> simp
          · cases hf
        · cases hf
      · cases hf
    · intro fs acc tg hf d hd l m cs ds b hl hm he
      cases fs with
      | nil =>
        simp only [flatFs, Option.some.injEq] at hf
        subst hf
        simp [eqCs] at he
        subst he; simp [Op.eqFields]
      | cons f r =>
        simp only [flatFs] at hf
        split at hf
        · rename_i kf lr h1 h2
          split at hf
          · rename_i hc
            obtain ⟨c1, c2, c3⟩ := hc
            cases hf
            obtain ⟨b1, g1, g2, g3⟩ := eqCs_split he
            simp only [List.length_append] at g1 g3
            rw [(take_drop_split l _ _ _).1, (take_drop_split m _ _ _).1] at g1
            rw [(take_drop_split l _ _ _).2, (take_drop_split m _ _ _).2] at g3
            have hag : ∃ ag, tAgg Pr f.type = some ag ∧ (ag = false → kf.length = 1) := by
              cases k with
              | zero => simp [flatN] at h1
              | succ k =>
                unfold flatN at h1
                split at h1
                · rename_i ht; cases h1; exact ⟨_, tAgg_of ht, fun _ => rfl⟩
                · rename_i ht; cases h1; exact ⟨_, tAgg_of ht, fun _ => rfl⟩
                · rename_i ht; cases h1; exact ⟨_, tAgg_of ht, fun _ => rfl⟩
                · rename_i ht; exact ⟨_, tAgg_of ht, fun q => by cases q⟩
                · rename_i ht; exact ⟨_, tAgg_of ht, fun q => by cases q⟩
                · cases h1
            obtain ⟨ag, ha, ha1⟩ := hag
            have hne : ∀ {x y : List AV}, ag = false → eqCs kf x y = some b1 → x ≠ [] ∧ y ≠ [] := by
              intro x y hagf hq
              have := ha1 hagf
              match kf, this with
              | [c], _ => cases x <;> cases y <;> simp_all [eqCs]
            obtain ⟨v, p1, p2⟩ := PV.part (w := w) hl (off := acc) ha c3 (fun q => ⟨ha1 q, (hne q g1).1⟩)
            obtain ⟨u, p3, p4⟩ := PV.part (w := w) hm (off := acc) ha c3 (fun q => ⟨ha1 q, (hne q g1).2⟩)
            have he1 := ihN f.type kf h1 d (by omega) ag _ _ v u b1 ha p2 p4 g1
            simp only [Op.eqFields, c1, ne_eq, not_false_eq_true, if_true, Sem.run_bind, c2, p1, p3, he1, Result.andThen_ok]
            cases b1 with
            | false => have := g2 rfl; subst this; simp
            | true =>
              simp only [Bool.not_true, Bool.false_eq_true, if_false]
              rw [c3] at h2
              exact ihF r (acc + kf.length) lr h2 d (by omega) l m cs ds b hl hm (g3 rfl)
          · cases hf
        · cases hf

end
end Go.Proofs.YtlklnffmhclioaaGreatDoor.Ev

namespace Go.Proofs.YtlklnffmhclioaaGreatDoor.Ev
open Go.RowKit

section
variable {Pr : Program} {B : Nat} {w0 w : World} {ρ : En} {h : AH}

theorem flatE_spec {t : TypeId} {g : Sg} (hf : flatE Pr t = some g) : tAgg Pr t = some g.ag ∧ flatN Pr 60 t = some g.tg := by
  unfold flatE at hf
  split at hf
  · rename_i h1 h2; cases hf; exact ⟨h1, h2⟩
  · cases hf

theorem eqA_sound {t : TypeId} {g : Sg} (hf : flatE Pr t = some g) {x y : AV} {v u : Value} (hx : V Pr ρ x v) (hy : V Pr ρ y u) {b : Bool} (he : eqA g x y = some b) {d : Nat} (hd : 60 ≤ d) :
    (Op.equalIn d t v u).run Pr w = .ok b w := by
  obtain ⟨h1, h2⟩ := flatE_spec hf
  obtain ⟨ag, tg⟩ := g
  unfold eqA at he
  cases ag with
  | true =>
    simp only [cond_true] at he
    split at he
    · cases hx with
      | agg hl _ => cases hy with
        | agg hm _ => exact (eqT 60).1 t tg h2 d hd true _ _ _ _ b h1 ⟨_, rfl, hl⟩ ⟨_, rfl, hm⟩ he
    · cases he
  | false =>
    simp only [cond_false] at he
    cases tg with
    | nil => cases he
    | cons k r =>
      cases r with
      | nil =>
        have he : eq1 k x y = some b := he
        refine (eqT 60).1 t [k] h2 d hd false [x] [y] _ _ b h1 ⟨x, rfl, hx⟩ ⟨y, rfl, hy⟩ ?_
        simp only [eqCs, he]
        cases b <;> rfl
      | cons _ _ => cases he

theorem bne_ne (ne b : Bool) : (bif ne then !b else b) = (if ne then !b else b) := by cases ne <;> rfl

theorem snd_eqc {t : TypeId} {g : Sg} (hf : flatE Pr t = some g) (hg : Pr.eqGuardType Pr.depth t = false) (hk : Pr.underlying t = some .bool ∨ g.ag = true) (ne : Bool) (x' y' : Operand) {x y : AV} {v u : Value} (hx : V Pr ρ x v) (hy : V Pr ρ y u) :
    Snd Pr B w0 ρ h w ((do pure (.value (← (do eqGuard (if ne then .neq else .eql) t x' y' v u; binOp (if ne then .neq else .eql) t v u))) : Sem Next).run Pr w) (iEqc g ne x y) := by
  unfold iEqc
  cases he : eqA g x y with
  | none => trivial
  | some b =>
    have hq := eqA_sound (w := w) hf hx hy he (d := 10000) (by omega)
    refine ⟨.bool (bif ne then !b else b), .inl ?_, .bool _⟩
    obtain ⟨ag, tg⟩ := g
    unfold eqA at he
    cases ag with
    | true =>
      simp only [cond_true] at he
      split at he
      · cases hx with
        | agg hl _ => cases hy with
          | agg hm _ =>
            cases ne
            · simp only [Bool.false_eq_true, if_false, Sem.run_bind, run_eqGuard_agg w _ _ _ _ _ _ hg, Result.andThen_ok, run_eql_struct, hq, cond_false, Sem.run_pure]
            · simp only [if_true, Sem.run_bind, run_eqGuard_agg w _ _ _ _ _ _ hg, Result.andThen_ok, run_neq_struct, hq, cond_true, Sem.run_pure]
      · cases he
    | false =>
      have hb : Pr.underlying t = some .bool := hk.resolve_right (by simp)
      simp only [cond_false] at he
      have h2 := (flatE_spec hf).2
      have htg : tg = [0] := by
        unfold flatN at h2; rw [hb] at h2; cases h2; rfl
      subst htg
      have he : eq1 0 x y = some b := he
      cases hx <;> cases hy <;> simp only [eq1] at he <;> first | (cases he; done) | skip
      cases ne
      · simp [eqGuard, binOp, Op.equal, Op.maxDepth, hq]
      · simp [eqGuard, binOp, Op.equal, Op.maxDepth, hq]

-- nil
theorem nbeq (a b : Nat) : Nat.beq a b = decide (a = b) := by
  cases h : Nat.beq a b with
  | true => simp [Nat.eq_of_beq_eq_true h]
  | false => have : a ≠ b := fun q => by subst q; rw [Nat.beq_refl] at h; cases h
             simp [this]

theorem isNil_run {kd : Nat} {t : TypeId} (ht : (kd = 0 ∧ ∃ e, Pr.underlying t = some (.pointer e)) ∨ (kd = 1 ∧ ∃ e, Pr.underlying t = some (.slice e)) ∨ (kd = 2 ∧ ∃ k e, Pr.underlying t = some (.map k e)) ∨
    (kd = 3 ∧ ∃ a b c, Pr.underlying t = some (.func a b c)) ∨ (kd = 4 ∧ ∃ ms, Pr.underlying t = some (.interface ms))) {x y : AV} {v u : Value} (hx : V Pr ρ x v) (hy : V Pr ρ y u) {a b : Bool} (h1 : isNil kd x = some a) (h2 : isNil kd y = some b)
    (hab : a = true ∨ b = true) (d : Nat) : (Op.equalIn (d + 1) t v u).run Pr w = .ok (a && b) w := by
  rcases ht with ⟨rfl, e, ht⟩ | ⟨rfl, e, ht⟩ | ⟨rfl, k, e, ht⟩ | ⟨rfl, q1, q2, q3, ht⟩ | ⟨rfl, ms, ht⟩ <;>
    cases hx <;> simp [isNil, nbeq] at h1 <;> cases hy <;> simp [isNil, nbeq] at h2 <;> subst h1 <;> subst h2 <;> first
      | (simp at hab; done)
      | simp [Op.equalIn, run_underlying ht]

theorem run_eqGuard_nul (op : BinOp) (t : TypeId) (x' y' : Operand) {kd : Nat} {x y : AV} {v u : Value} (hx : V Pr ρ x v) (hy : V Pr ρ y u) {a b : Bool} (h1 : isNil kd x = some a) (_ : isNil kd y = some b)
    (hc : kd = 4 → isConst x' = true ∨ isConst y' = true) : (eqGuard op t x' y' v u).run Pr w = .ok () w := by
  by_cases hif : v = .nilIface ∧ u = .nilIface
  · obtain ⟨rfl, rfl⟩ := hif
    cases hx
    have hk : kd = 4 := by
      simp only [isNil] at h1
      cases hb : Nat.beq kd 4 with
      | true => exact Nat.eq_of_beq_eq_true hb
      | false => rw [hb] at h1; cases h1
    have hc := hc hk
    unfold eqGuard
    cases op <;> (try simp) <;> (cases x' <;> cases y' <;> simp [isConst] at hc <;> simp)
  · have hagg : ∀ cs, v ≠ .agg cs := by
      intro cs hv; subst hv; cases hx; simp [isNil] at h1
    unfold eqGuard
    cases op <;> (try (simp; done)) <;>
      (cases v <;> cases u <;> first
        | exact absurd rfl (hagg _)
        | exact absurd ⟨rfl, rfl⟩ hif
        | simp)

theorem snd_nul {kd : Nat} {t : TypeId} (ht : (kd = 0 ∧ ∃ e, Pr.underlying t = some (.pointer e)) ∨ (kd = 1 ∧ ∃ e, Pr.underlying t = some (.slice e)) ∨ (kd = 2 ∧ ∃ k e, Pr.underlying t = some (.map k e)) ∨
    (kd = 3 ∧ ∃ a b c, Pr.underlying t = some (.func a b c)) ∨ (kd = 4 ∧ ∃ ms, Pr.underlying t = some (.interface ms))) (ne : Bool) (x' y' : Operand) (hc : kd = 4 → isConst x' = true ∨ isConst y' = true)
    {x y : AV} {v u : Value} (hx : V Pr ρ x v) (hy : V Pr ρ y u) :
    Snd Pr B w0 ρ h w ((do pure (.value (← (do eqGuard (if ne then .neq else .eql) t x' y' v u; binOp (if ne then .neq else .eql) t v u))) : Sem Next).run Pr w) (iNul kd ne x y) := by
  have key : ∀ a b, isNil kd x = some a → isNil kd y = some b → (a = true ∨ b = true) →
      Snd Pr B w0 ρ h w ((do pure (.value (← (do eqGuard (if ne then .neq else .eql) t x' y' v u; binOp (if ne then .neq else .eql) t v u))) : Sem Next).run Pr w) (.v (.bool (bif ne then !(a && b) else (a && b)))) := by
    intro a b h1 h2 hab
    have hq := isNil_run (w := w) ht hx hy h1 h2 hab 9999
    have hg := run_eqGuard_nul (w := w) (if ne then .neq else .eql) t x' y' hx hy h1 h2 hc
    refine ⟨_, .inl ?_, .bool _⟩
    simp only [Sem.run_bind, hg, Result.andThen_ok]
    have hb : (binOp (if ne then .neq else .eql) t v u).run Pr w = .ok (.bool (bif ne then !(a && b) else (a && b))) w := by
      cases ne
      · simp only [Bool.false_eq_true, if_false, cond_false]
        have : binOp .eql t v u = (do pure (.bool (← Op.equal t v u))) := by
          cases hx <;> simp [isNil, nbeq] at h1 <;> cases hy <;> simp [isNil, nbeq] at h2 <;> rfl
        rw [this]
        simp [Op.equal, Op.maxDepth, hq]
      · simp only [if_true, cond_true]
        have : binOp .neq t v u = (do pure (.bool (!(← Op.equal t v u)))) := by
          cases hx <;> simp [isNil, nbeq] at h1 <;> cases hy <;> simp [isNil, nbeq] at h2 <;> rfl
        rw [this]
        simp [Op.equal, Op.maxDepth, hq]
    rw [hb]; rfl
  unfold iNul
  cases h1 : isNil kd x with
  | none => exact True.intro
  | some a =>
    cases h2 : isNil kd y with
    | none => cases a <;> exact True.intro
    | some b =>
      cases a with
      | true => simpa using key true b h1 h2 (.inl rfl)
      | false => cases b with
        | true => simpa using key false true h1 h2 (.inr rfl)
        | false => exact True.intro

end
end Go.Proofs.YtlklnffmhclioaaGreatDoor.Ev

namespace Go.Proofs.YtlklnffmhclioaaGreatDoor.Ev
open Go.RowKit

section
variable {Pr : Program} {B : Nat} {w0 w : World} {ρ : En} {h : AH}

theorem flat_agg {k : Nat} {t : TypeId} {tg : List Nat} (hf : flatN Pr k t = some tg) : ∃ ag, tAgg Pr t = some ag ∧ (ag = false → tg.length = 1) := by
  cases k with
  | zero => simp [flatN] at hf
  | succ k =>
    unfold flatN at hf
    split at hf
    · rename_i ht; cases hf; exact ⟨_, tAgg_of ht, fun _ => rfl⟩
    · rename_i ht; cases hf; exact ⟨_, tAgg_of ht, fun _ => rfl⟩
    · rename_i ht; cases hf; exact ⟨_, tAgg_of ht, fun _ => rfl⟩
    · rename_i ht; exact ⟨_, tAgg_of ht, fun q => by cases q⟩
    · rename_i ht; exact ⟨_, tAgg_of ht, fun q => by cases q⟩
    · cases hf

theorem reps_length (l : List Nat) : ∀ n, (reps l n).length = n * l.length
  | 0 => by simp [reps]
  | n + 1 => by simp [reps, reps_length l n, Nat.add_mul]; omega

theorem forIn_range_unit (f : Nat → PUnit → Sem (ForInStep PUnit)) : ∀ (n s : Nat), (∀ i, s ≤ i → i < s + n → (f i PUnit.unit).run Pr w = .ok (.yield PUnit.unit) w) →
    (forIn (List.range' s n) PUnit.unit f : Sem PUnit).run Pr w = .ok PUnit.unit w
  | 0, s, _ => by simp
  | n + 1, s, hf => by
    simp only [List.range'_succ, List.forIn_cons, Sem.run_bind, hf s (Nat.le_refl _) (by omega), Result.andThen_ok]
    exact forIn_range_unit f n (s + 1) fun i h1 h2 => hf i (by omega) (by omega)

-- keys
theorem checkKey_flat (em : Bool) : ∀ (k : Nat), (∀ t tg, flatN Pr k t = some tg → ∀ d, k ≤ d → ∀ ag l v, tAgg Pr t = some ag → PV Pr ρ ag l v → tg.length ≤ l.length → (Instr.checkKey em d t v).run Pr w = .ok () w) ∧
    (∀ fs acc tg, flatFs Pr k fs acc = some tg → ∀ d, k ≤ d → ∀ l (cs : Array Value), VL Pr ρ l cs.toList → acc + tg.length ≤ l.length →
      ((forIn fs PUnit.unit fun f _ => if f.name ≠ "_" then (do
          let __do_lift ← part f.type cs f.offset
          Instr.checkKey em d f.type __do_lift
          pure (ForInStep.yield PUnit.unit))
        else pure (ForInStep.yield PUnit.unit)) : Sem PUnit).run Pr w = .ok PUnit.unit w)
  | 0 => ⟨fun t tg h => by simp [flatN] at h, fun fs acc tg h => by simp [flatFs] at h⟩
  | k + 1 => by
    obtain ⟨ihN, ihF⟩ := checkKey_flat em k
    constructor
    · intro t tg hf d hd ag l v ha hl hlen
      obtain ⟨d, rfl⟩ : ∃ d', d = d' + 1 := ⟨d - 1, by omega⟩
      unfold flatN at hf
      split at hf
      · rename_i ht
        rw [tAgg_of ht] at ha; cases ha
        simp [Instr.checkKey, run_underlying ht]
      · rename_i ht
        rw [tAgg_of ht] at ha; cases ha
        simp [Instr.checkKey, run_underlying ht]
      · rename_i ht
        rw [tAgg_of ht] at ha; cases ha
        simp [Instr.checkKey, run_underlying ht]
      · rename_i fs ht
        rw [tAgg_of ht] at ha; cases ha
        split at hf
        · cases hf
        · obtain ⟨cs, rfl, hcl⟩ := hl
          simp only [Instr.checkKey, Sem.run_bind, run_underlying ht, Result.andThen_ok]
          rw [← Array.forIn_toList, ihF fs.toList 0 tg hf d (by omega) l cs hcl (by omega)]
          rfl
      · rename_i n e ht
        rw [tAgg_of ht] at ha; cases ha
        split at hf
        · rename_i kk hfe
          split at hf
          · rename_i hsz
            cases hf
            obtain ⟨cs, rfl, hcl⟩ := hl
            obtain ⟨ag, ha, ha1⟩ := flat_agg hfe
            rw [reps_length] at hlen
            simp only [Instr.checkKey, Sem.run_bind, run_underlying ht, Result.andThen_ok]
            simp only [Std.Legacy.Range.forIn_eq_forIn_range', Std.Legacy.Range.size, Nat.sub_zero, Nat.add_sub_cancel, Nat.div_one]
            rw [forIn_range_unit]
            · rfl
            · intro i _ hi
              have hle : (i + 1) * kk.length ≤ n * kk.length := Nat.mul_le_mul_right _ (by omega)
              rw [Nat.add_mul, Nat.one_mul] at hle
              obtain ⟨u, p1, p2⟩ := PV.part (w := w) hcl (off := i * kk.length) ha hsz (fun q => ⟨ha1 q, by
                intro hh
                have h2 : ((l.drop (i * kk.length)).take kk.length).length = 0 := by rw [hh]; rfl
                have := ha1 q
                rw [List.length_take, List.length_drop] at h2; omega⟩)
              have h3 := ihN e kk hfe d (by omega) ag _ u ha p2 (by simp; omega)
              simp [run_sizeOf hsz, p1, h3]
          · cases hf
        · cases hf
      · cases hf
    · intro fs acc tg hf d hd l cs hl hlen
      cases fs with
      | nil => simp
      | cons f r =>
        simp only [flatFs] at hf
        split at hf
        · rename_i kf lr h1 h2
          split at hf
          · rename_i hc
            obtain ⟨c1, c2, c3⟩ := hc
            cases hf
            obtain ⟨ag, ha, ha1⟩ := flat_agg h1
            rw [List.length_append] at hlen
            obtain ⟨u, p1, p2⟩ := PV.part (w := w) hl (off := acc) ha c3 (fun q => ⟨ha1 q, by
              intro hh
              have h3 : ((l.drop acc).take kf.length).length = 0 := by rw [hh]; rfl
              have := ha1 q
              rw [List.length_take, List.length_drop] at h3; omega⟩)
            have h3 := ihN f.type kf h1 d (by omega) ag _ u ha p2 (by simp; omega)
            rw [c3] at h2
            have h4 := ihF r (acc + kf.length) lr h2 d (by omega) l cs hl (by omega)
            simp only [List.forIn_cons, c1, ne_eq, not_false_eq_true, if_true, Sem.run_bind, c2, p1, h3, Result.andThen_ok, Sem.run_pure]
            exact h4
          · cases hf
        · cases hf

theorem keyOk_run {t : TypeId} {g : Sg} (hf : flatE Pr t = some g) {k : AV} {kv : Value} (hk : V Pr ρ k kv) (ho : keyOk g k = true) (em : Bool) : (Instr.checkKey em 10000 t kv).run Pr w = .ok () w := by
  obtain ⟨h1, h2⟩ := flatE_spec hf
  obtain ⟨ag, tg⟩ := g
  unfold keyOk at ho
  split at ho
  · rename_i l
    cases ag with
    | false => simp at ho
    | true =>
      simp only [cond_true] at ho
      have hl := Nat.eq_of_beq_eq_true ho
      cases hk with
      | agg hl' _ => exact (checkKey_flat em 60).1 t tg h2 10000 (by omega) true l _ h1 ⟨_, rfl, hl'⟩ (by show tg.length ≤ l.length; have : l.length = tg.length := hl; omega)
  · cases ag with
    | true => simp at ho
    | false =>
      obtain ⟨ag', ha, ha1⟩ := flat_agg h2
      rw [h1] at ha; cases ha
      have := ha1 rfl
      exact (checkKey_flat em 60).1 t tg h2 10000 (by omega) false [k] _ h1 ⟨k, rfl, hk⟩ (by show tg.length ≤ 1; have : tg.length = 1 := this; omega)

/-- what is found in a map -/
def FR (Pr : Program) (ρ : En) : Option (Nat × AV) → Option (Nat × Value) → Prop
  | none, none => True
  | some (i, a), some (j, v) => i = j ∧ V Pr ρ a v
  | _, _ => False

theorem eqA_now {t : TypeId} {g : Sg} (hf : flatE Pr t = some g) {td : TypeDesc} (ht : Pr.underlying t = some td) {x y : AV} {v u : Value} (hx : V Pr ρ x v) (hy : V Pr ρ y u) {b b' : Bool} (he : eqA g x y = some b)
    (hn : Instr.sameNow td v u = some b') : b = b' := by
  have h1 := eqA_sound (w := default) hf hx hy he (d := 60) (by omega)
  unfold Instr.sameNow at hn
  split at hn
  · rename_i k k1 a k2 c
    split at hn
    · rename_i hk; subst hk; cases hn
      rw [run_equalIn_int _ 59 t k1 _ a c ht] at h1
      cases h1; rfl
    · cases hn
  · rename_i a c
    cases hn
    rw [run_equalIn_string _ 59 t a c ht, ← beq_toListBytes] at h1
    cases h1; rfl
  · rename_i a c
    cases hn
    rw [run_equalIn_bool' _ 59 t a c ht] at h1
    cases h1; rfl
  · cases hn

theorem findNow_sound {t : TypeId} {g : Sg} (hf : flatE Pr t = some g) {td : TypeDesc} (ht : Pr.underlying t = some td) {k : AV} {kv : Value} (hk : V Pr ρ k kv) : ∀ {es : List AEnt} {ces : List MapEntry} {i : Nat} {r : Option (Nat × AV)} {r' : Option (Nat × Value)},
    All2 (ER Pr ρ) es ces → findA g k es i = some r → Instr.findNow td kv ces i = some r' → FR Pr ρ r r'
  | _, _, i, r, r', .nil, h1, h2 => by cases h1; cases h2; trivial
  | _, _, i, r, r', .cons (a := e) (b := c) he ht', h1, h2 => by
    simp only [findA] at h1
    simp only [Instr.findNow] at h2
    cases q1 : eqA g k e.key with
    | none => rw [q1] at h1; cases h1
    | some b =>
      rw [q1] at h1
      cases q2 : Instr.sameNow td kv c.key with
      | none => rw [q2] at h2; cases h2
      | some b' =>
        rw [q2] at h2
        have := eqA_now hf ht hk he.1 q1 q2
        subst this
        cases b with
        | true => cases h1; cases h2; exact ⟨rfl, he.2.1⟩
        | false => exact findNow_sound hf ht hk ht' h1 h2

theorem findAsking_sound {t : TypeId} {g : Sg} (hf : flatE Pr t = some g) {k : AV} {kv : Value} (hk : V Pr ρ k kv) : ∀ {es : List AEnt} {ces : List MapEntry} {i : Nat} {r : Option (Nat × AV)},
    All2 (ER Pr ρ) es ces → findA g k es i = some r → ∃ r', (Instr.findAsking t kv ces i).run Pr w = .ok r' w ∧ FR Pr ρ r r'
  | _, _, i, r, .nil, h1 => by cases h1; exact ⟨none, rfl, trivial⟩
  | _, _, i, r, .cons (a := e) (b := c) he ht', h1 => by
    simp only [findA] at h1
    cases q1 : eqA g k e.key with
    | none => rw [q1] at h1; cases h1
    | some b =>
      rw [q1] at h1
      have hq := eqA_sound (w := w) hf hk he.1 q1 (d := 10000) (by omega)
      cases b with
      | true =>
        cases h1
        exact ⟨some (i, c.val), by simp [Instr.findAsking, Op.equal, Op.maxDepth, hq], rfl, he.2.1⟩
      | false =>
        obtain ⟨r', g1, g2⟩ := findAsking_sound hf hk ht' h1
        exact ⟨r', by simpa [Instr.findAsking, Op.equal, Op.maxDepth, hq] using g1, g2⟩

theorem findKey_sound {t : TypeId} {g : Sg} (hf : flatE Pr t = some g) {k : AV} {kv : Value} (hk : V Pr ρ k kv) {es : List AEnt} {ces : List MapEntry} {r : Option (Nat × AV)} (ha : All2 (ER Pr ρ) es ces)
    (h1 : findA g k es 0 = some r) : ∃ r', (Instr.findKey t kv ces).run Pr w = .ok r' w ∧ FR Pr ρ r r' := by
  have hu : ∃ td, Pr.underlying t = some td := by
    have := (flatE_spec hf).1
    unfold tAgg at this
    cases q : Pr.underlying t with
    | none => rw [q] at this; cases this
    | some td => exact ⟨td, rfl⟩
  obtain ⟨td, ht⟩ := hu
  cases q : Instr.findNow td kv ces 0 with
  | some r' =>
    exact ⟨r', by simp [Instr.findKey, run_underlying ht, q], findNow_sound hf ht hk ha h1 q⟩
  | none =>
    obtain ⟨r', g1, g2⟩ := findAsking_sound (w := w) hf hk ha h1
    exact ⟨r', by simp [Instr.findKey, run_underlying ht, q, g1], g2⟩

/-- the entries of a map -/
theorem entries_sound (hw : WR Pr B w0 ρ h w) {m : AV} {mv : Value} (hm : V Pr ρ m mv) {es : List AEnt} (he : entries h m = some es) :
    (mv = .map none ∧ es = []) ∨ ∃ r ces clock, mv = .map (some r) ∧ w.heap[r]? = some (.map ces clock) ∧ All2 (ER Pr ρ) es ces.toList := by
  cases hm <;> simp only [entries] at he <;> first | (cases he; done) | skip
  · cases he; exact .inl ⟨rfl, rfl⟩
  · rename_i p e hp
    split at he
    · rename_i es' c hc
      cases he
      have hO := hw.obj p e hp
      rw [hc] at hO
      obtain ⟨ces, o1, o2⟩ := hO
      exact .inr ⟨e.a, ces, c, rfl, o1, o2⟩
    · cases he

theorem run_getObj {r : Nat} {ces : Array MapEntry} {c : Nat} (hr : w.heap[r]? = some (.map ces c)) : (getObj r).run Pr w = .ok (.map ces c) w := by simp [getObj, Sem.run, hr]

theorem snd_lk (hw : WR Pr B w0 ρ h w) {t kt et : TypeId} (ht : Pr.underlying t = some (.map kt et)) {g : Sg} (hf : flatE Pr kt = some g) {z : AV} (hz : tZero Pr et = some z) (ok : Bool) {m k : AV} {mv kv : Value}
    (hm : V Pr ρ m mv) (hk : V Pr ρ k kv) : Snd Pr B w0 ρ h w ((do pure (.value (← Instr.lookup t mv kv ok)) : Sem Next).run Pr w) (iLk h g z ok m k) := by
  unfold iLk
  cases hko : keyOk g k with
  | false => trivial
  | true =>
    simp only [Bool.not_true, cond_false]
    cases he : entries h m with
    | none => trivial
    | some es =>
      simp only
      cases hfd : findA g k es 0 with
      | none => trivial
      | some r =>
        obtain ⟨zv, z1, z2⟩ := run_zeroValue (w := w) hz
        have z3 : V Pr ρ z zv := ofV_V z2
        have hces : ∃ ces : Array MapEntry, (match mv with
            | .map none => (pure #[] : Sem (Array MapEntry))
            | .map (some r) => do
              let .map es _ ← getObj r | stuck "Lookup: map expected"
              pure es
            | _ => stuck "Lookup: map expected").run Pr w = .ok ces w ∧ All2 (ER Pr ρ) es ces.toList := by
          rcases entries_sound hw hm he with ⟨rfl, rfl⟩ | ⟨rr, ces, c, rfl, hr, ha⟩
          · exact ⟨#[], rfl, .nil⟩
          · exact ⟨ces, by simp [run_getObj hr], ha⟩
        obtain ⟨ces, hr, ha⟩ := hces
        obtain ⟨r', f1, f2⟩ := findKey_sound (w := w) hf hk ha hfd
        have hck := keyOk_run (w := w) hf hk hko ces.isEmpty
        have hrun : ∃ v, (Instr.lookup t mv kv ok).run Pr w = .ok v w ∧ V Pr ρ (match r with | some (_, a) => (bif ok then .tup [a, .bool true] else a) | none => (bif ok then .tup [z, .bool false] else z)) v := by
          unfold Instr.lookup
          simp only [Sem.run_bind, run_underlying ht, Result.andThen_ok]
          rcases entries_sound hw hm he with ⟨rfl, rfl⟩ | ⟨rr, ces', c, rfl, hrr, _⟩
          · have hce : ces = #[] := by simpa using hr.symm
            subst hce
            simp only [Sem.run_pure, Result.andThen_ok, hck, Sem.run_bind, f1]
            cases r with
            | none =>
              cases r' with
              | none => cases ok
                        · exact ⟨zv, by simp [z1], z3⟩
                        · exact ⟨_, by simp [z1], .tup (.cons z3 (.cons (.bool false) .nil))⟩
              | some _ => exact f2.elim
            | some q =>
              cases r' with
              | none => exact f2.elim
              | some q' =>
                cases ok
                · exact ⟨q'.2, by simp, f2.2⟩
                · exact ⟨_, by simp, .tup (.cons f2.2 (.cons (.bool true) .nil))⟩
          · have hce : ces = ces' := by
              simp [run_getObj hrr] at hr; exact hr.symm
            subst hce
            simp only [Sem.run_bind, run_getObj hrr, Sem.run_pure, Result.andThen_ok, hck, f1]
            cases r with
            | none =>
              cases r' with
              | none => cases ok
                        · exact ⟨zv, by simp [z1], z3⟩
                        · exact ⟨_, by simp [z1], .tup (.cons z3 (.cons (.bool false) .nil))⟩
              | some _ => exact f2.elim
            | some q =>
              cases r' with
              | none => exact f2.elim
              | some q' =>
                cases ok
                · exact ⟨q'.2, by simp, f2.2⟩
                · exact ⟨_, by simp, .tup (.cons f2.2 (.cons (.bool true) .nil))⟩
        obtain ⟨v, v1, v2⟩ := hrun
        cases r with
        | none => exact ⟨v, .inl (by simp [v1]), v2⟩
        | some q => exact ⟨v, .inl (by simp [v1]), v2⟩

end
end Go.Proofs.YtlklnffmhclioaaGreatDoor.Ev

namespace Go.Proofs.YtlklnffmhclioaaGreatDoor.Ev
open Go.RowKit

section
variable {Pr : Program} {B : Nat} {w0 w : World} {ρ : En} {h : AH}

theorem All2.get {α β : Type} {R : α → β → Prop} : ∀ {l : List α} {r : List β} {i : Nat} {b : β}, All2 R l r → r[i]? = some b → ∃ a, l[i]? = some a ∧ R a b
  | _, _, i, b, .nil, h => by simp at h
  | _, _, 0, b, .cons h t, hh => by simp at hh; subst hh; exact ⟨_, rfl, h⟩
  | _, _, i + 1, b, .cons h t, hh => by simp at hh; simpa using All2.get t hh

theorem setEnt_sound {k v : AV} {kv vv : Value} (hk : V Pr ρ k kv) (hv : V Pr ρ v vv) : ∀ {es : List AEnt} {ces : List MapEntry} (i : Nat), All2 (ER Pr ρ) es ces →
    All2 (ER Pr ρ) (setEnt k v i es) (ces.modify i fun e => { e with key := kv, val := vv })
  | _, _, i, .nil => by simp [setEnt]; exact .nil
  | _, _, 0, .cons h t => by simp only [setEnt, List.modify_zero_cons]; exact .cons ⟨hk, hv, h.2.2⟩ t
  | _, _, i + 1, .cons h t => by simp only [setEnt, List.modify_succ_cons]; exact .cons h (setEnt_sound hk hv i t)

/-- the interpreter's map becomes another -/
theorem WR.mapPut (hw : WR Pr B w0 ρ h w) {p : P} {e : BE} (hp : ρ p = some e) {es : List AEnt} {c : Nat} (hc : h.get p = .map es c) {es' : List AEnt} {c' : Nat} {ces' : Array MapEntry} (ha : All2 (ER Pr ρ) es' ces'.toList) :
    (setObj e.a (.map ces' c')).run Pr w = .ok () { w with heap := w.heap.setIfInBounds e.a (.map ces' c') } ∧
    WR Pr B w0 ρ (h.set p (.map es' c')) { w with heap := w.heap.setIfInBounds e.a (.map ces' c') } ∧ Evo ρ ρ h (h.set p (.map es' c')) := by
  have hO := hw.obj p e hp
  rw [hc] at hO
  obtain ⟨ces, o1, o2⟩ := hO
  have hlt := hw.bnd p e hp
  refine ⟨by simp [setObj, Sem.run, o1], hw.put hp (by rw [hc]; rfl) (fun b hb => by simp [Array.getElem?_setIfInBounds_ne (Ne.symm hb)]) (by simp) rfl rfl rfl ⟨ces', by simp [hlt], ha⟩, hw.evo_set hp _⟩

theorem sameBits_eq1 {c : Nat} {x y : AV} {v u : Value} (hx : V Pr ρ x v) (hy : V Pr ρ y u) (he : eq1 c x y = some true) (n : Nat) : Instr.sameBits n u v = true := by
  cases hx <;> cases hy <;> simp only [eq1] at he <;> first | (cases he; done) | skip
  · rename_i a b
    cases hc : Nat.beq c 0 <;> rw [hc] at he <;> simp at he
    cases a <;> cases b <;> simp_all [Instr.sameBits]
  · rename_i j a j' b
    cases hc : Nat.beq c 1 <;> rw [hc] at he <;> simp at he
    rw [kEq_eq] at he
    by_cases hj : j = j'
    · subst hj
      simp [eqI_eq] at he
      subst he; simp [Instr.sameBits]
    · simp [hj] at he
  · rename_i s a hs s' b hs'
    cases hc : Nat.beq c 2 <;> rw [hc] at he <;> simp at he
    subst hs hs'
    rw [bytesA, bytesA, eqL_map] at he
    have hab : a = b := by
      have h1 : a.data.toList = b.data.toList := by simpa using he
      have h2 : a.data = b.data := Array.ext' h1
      cases a; cases b; simp_all
    subst hab
    simp only [Instr.sameBits]
    rw [beq_toListBytes]; simp

theorem sameBits_cells : ∀ {g : List Nat} {l m : List AV} {r s : List Value}, VL Pr ρ l r → VL Pr ρ m s → eqCs g l m = some true → ∀ n, (s.length = r.length) ∧ (s.zip r).all (fun (x, y) => Instr.sameBits n x y) = true
  | [], [], [], _, _, .nil, .nil, _, n => ⟨rfl, rfl⟩
  | [], _ :: _, _, _, _, _, _, h, _ => by simp [eqCs] at h
  | [], [], _ :: _, _, _, _, _, h, _ => by simp [eqCs] at h
  | _ :: _, [], _, _, _, _, _, h, _ => by simp [eqCs] at h
  | _ :: _, _ :: _, [], _, _, _, _, h, _ => by simp [eqCs] at h
  | k :: g, a :: l, b :: m, _, _, .cons h1 t1, .cons h2 t2, h, n => by
    simp only [eqCs] at h
    cases hq : eq1 k a b with
    | none => rw [hq] at h; cases h
    | some q =>
      rw [hq] at h
      cases q with
      | false => cases h
      | true =>
        obtain ⟨i1, i2⟩ := sameBits_cells t1 t2 h n
        refine ⟨by simpa using i1, ?_⟩
        simp only [List.zip_cons_cons, List.all_cons, sameBits_eq1 h1 h2 hq n, Bool.true_and]
        exact i2

theorem keyStays {g : Sg} {x y : AV} {v u : Value} (hx : V Pr ρ x v) (hy : V Pr ρ y u) (he : eqA g x y = some true) : (Instr.keyThatStays u v).run Pr w = .ok v w := by
  have hs : Instr.sameBits 10000 u v = true := by
    obtain ⟨ag, tg⟩ := g
    unfold eqA at he
    cases ag with
    | true =>
      simp only [cond_true] at he
      split at he
      · cases hx with
        | agg hl _ => cases hy with
          | agg hm _ =>
            obtain ⟨i1, i2⟩ := sameBits_cells hl hm he 9999
            rename_i cs _ ds _
            unfold Instr.sameBits
            simp only [Bool.and_eq_true]
            exact ⟨by simpa using i1, i2⟩
      · cases he
    | false =>
      simp only [cond_false] at he
      cases tg with
      | nil => cases he
      | cons k r => cases r with
        | nil => exact sameBits_eq1 hx hy he 10000
        | cons _ _ => cases he
  simp [Instr.keyThatStays, hs]

/-- what was found lies in the list -/
theorem findA_mem {g : Sg} {k : AV} : ∀ {es : List AEnt} {i j : Nat} {v : AV}, findA g k es i = some (some (j, v)) → ∃ e, i ≤ j ∧ es[j - i]? = some e ∧ eqA g k e.key = some true ∧ e.val = v
  | [], i, j, v, h => by cases h
  | e :: es, i, j, v, h => by
    simp only [findA] at h
    cases hq : eqA g k e.key with
    | none => rw [hq] at h; cases h
    | some b =>
      rw [hq] at h
      cases b with
      | true => cases h; exact ⟨e, Nat.le_refl _, by simp, hq, rfl⟩
      | false =>
        obtain ⟨e', h1, h2, h3, h4⟩ := findA_mem h
        exact ⟨e', by omega, by rw [show j - i = (j - (i + 1)) + 1 from by omega]; simpa using h2, h3, h4⟩

theorem All2.get' {α β : Type} {R : α → β → Prop} : ∀ {l : List α} {r : List β} {i : Nat} {a : α}, All2 R l r → l[i]? = some a → ∃ b, r[i]? = some b ∧ R a b
  | _, _, i, b, .nil, h => by simp at h
  | _, _, 0, b, .cons h t, hh => by simp at hh; subst hh; exact ⟨_, rfl, h⟩
  | _, _, i + 1, b, .cons h t, hh => by simp at hh; simpa using All2.get' t hh

theorem All2.snoc {α β : Type} {R : α → β → Prop} {l : List α} {r : List β} {a : α} {b : β} (h : All2 R l r) (k : R a b) : All2 R (l ++ [a]) (r ++ [b]) := h.append (.cons k .nil)

theorem snd_mu (hw : WR Pr B w0 ρ h w) {t kt et : TypeId} (ht : Pr.underlying t = some (.map kt et)) {g : Sg} (hf : flatE Pr kt = some g) {m k v : AV} {mv kv vv : Value}
    (hm : V Pr ρ m mv) (hk : V Pr ρ k kv) (hv : V Pr ρ v vv) : Snd Pr B w0 ρ h w ((do Instr.mapUpdate t mv kv vv; pure .skip : Sem Next).run Pr w) (iMu h g m k v) := by
  unfold iMu
  cases hko : keyOk g k with
  | false => trivial
  | true =>
    simp only [Bool.not_true, cond_false]
    cases hm with
    | map hp =>
      rename_i p e
      simp only
      cases hc : h.get p with
      | map es c =>
        simp only
        have hO := hw.obj p e hp
        rw [hc] at hO
        obtain ⟨ces, o1, o2⟩ := hO
        cases hfd : findA g k es 0 with
        | none => trivial
        | some r =>
          obtain ⟨r', f1, f2⟩ := findKey_sound (w := w) hf hk o2 hfd
          have hck := keyOk_run (w := w) hf hk hko false
          cases r with
          | none =>
            cases r' with
            | some _ => exact f2.elim
            | none =>
              obtain ⟨p1, p2, p3⟩ := hw.mapPut hp hc (es' := es ++ [⟨k, v, c⟩]) (c' := c + 1) (ces' := ces.push { key := kv, val := vv, born := c }) (by simpa using o2.snoc ⟨hk, hv, rfl⟩)
              refine ⟨ρ, undef, _, .inr ⟨?_, rfl⟩, V.undef, p2, p3⟩
              simp [Instr.mapUpdate, run_underlying ht, run_getObj o1, hck, f1, p1]
          | some q =>
            cases r' with
            | none => exact f2.elim
            | some q' =>
              obtain ⟨i, x⟩ := q
              obtain ⟨i', x'⟩ := q'
              obtain ⟨rfl, hx⟩ := f2
              obtain ⟨en, _, e2, e3, e4⟩ := findA_mem hfd
              obtain ⟨ce, g1, g2⟩ := o2.get' e2
              have hces : ces[i]? = some ce := by simpa using g1
              have hks := keyStays (w := w) hk g2.1 e3
              obtain ⟨p1, p2, p3⟩ := hw.mapPut hp hc (es' := setEnt k v i es) (c' := c) (ces' := ces.modify i fun e => { e with key := kv, val := vv }) (by simpa using setEnt_sound hk hv i o2)
              refine ⟨ρ, undef, _, .inr ⟨?_, rfl⟩, V.undef, p2, p3⟩
              simp [Instr.mapUpdate, run_underlying ht, run_getObj o1, hck, f1, hces, hks, p1]
      | _ => trivial
    | _ => trivial

theorem bornAt_eq : ∀ (i : Nat) (es : List AEnt), bornAt i es = (es[i]?).map (·.born)
  | i, [] => by cases i <;> rfl
  | 0, e :: es => rfl
  | i + 1, e :: es => by simp [bornAt, bornAt_eq i es]

theorem snd_me (hw : WR Pr B w0 ρ h w) {t kt et : TypeId} (ht : Pr.underlying t = some (.map kt et)) {g : Sg} (hf : flatE Pr kt = some g) {z : AV} (hz : tZero Pr et = some z) {m k : AV} {mv kv : Value}
    (hm : V Pr ρ m mv) (hk : V Pr ρ k kv) : Snd Pr B w0 ρ h w ((do pure (.value (← Instr.mapEntry t mv kv)) : Sem Next).run Pr w) (iMe h g z m k) := by
  unfold iMe
  cases hko : keyOk g k with
  | false => trivial
  | true =>
    simp only [Bool.not_true, cond_false]
    cases hm with
    | map hp =>
      rename_i p e
      simp only
      cases hc : h.get p with
      | map es c =>
        simp only
        have hO := hw.obj p e hp
        rw [hc] at hO
        obtain ⟨ces, o1, o2⟩ := hO
        cases hfd : findA g k es 0 with
        | none => trivial
        | some r =>
          obtain ⟨r', f1, f2⟩ := findKey_sound (w := w) hf hk o2 hfd
          have hck := keyOk_run (w := w) hf hk hko false
          cases r with
          | none =>
            cases r' with
            | some _ => exact f2.elim
            | none =>
              obtain ⟨zv, z1, z2⟩ := run_zeroValue (w := w) hz
              have z3 : V Pr ρ z zv := ofV_V z2
              obtain ⟨p1, p2, p3⟩ := hw.mapPut hp hc (es' := es ++ [⟨k, z, c⟩]) (c' := c + 1) (ces' := ces.push { key := kv, val := zv, born := c }) (by simpa using o2.snoc ⟨hk, z3, rfl⟩)
              refine ⟨ρ, .tuple #[zv, goInt c], _, .inl ?_, .tup (.cons z3 (.cons (.int _ _) .nil)), p2, p3⟩
              simp [Instr.mapEntry, run_underlying ht, run_getObj o1, hck, f1, z1, p1]
          | some q =>
            cases r' with
            | none => exact f2.elim
            | some q' =>
              obtain ⟨i, x⟩ := q
              obtain ⟨i', x'⟩ := q'
              obtain ⟨rfl, hx⟩ := f2
              obtain ⟨en, _, e2, e3, e4⟩ := findA_mem hfd
              have e2' : es[i]? = some en := e2
              obtain ⟨ce, g1, g2⟩ := o2.get' e2'
              have hces : ces[i]? = some ce := by simpa using g1
              have hks := keyStays (w := w) hk g2.1 e3
              have hb : bornAt i es = some en.born := by rw [bornAt_eq, e2']; rfl
              simp only [hb]
              have hset : All2 (ER Pr ρ) (setEnt k x i es) (ces.modify i fun e => { e with key := kv }).toList := by
                have h0 := setEnt_sound hk g2.2.1 i o2
                rw [e4] at h0
                have : (ces.modify i fun e => { e with key := kv }).toList = ces.toList.modify i fun e => { e with key := kv, val := ce.val } := by
                  rw [Array.toList_modify]
                  apply List.ext_getElem?
                  intro j
                  rw [List.getElem?_modify, List.getElem?_modify]
                  by_cases hij : i = j
                  · subst hij; simp [g1]
                  · simp [hij]
                rw [this]; exact h0
              obtain ⟨p1, p2, p3⟩ := hw.mapPut hp hc (es' := setEnt k x i es) (c' := c) hset
              refine ⟨ρ, .tuple #[x', goInt ce.born], _, .inl ?_, .tup (.cons hx (.cons (by rw [← g2.2.2]; exact .int _ _) .nil)), p2, p3⟩
              simp [Instr.mapEntry, run_underlying ht, run_getObj o1, hck, f1, hces, hks, p1]
      | _ => trivial
    | _ => trivial

theorem stamp_sound {v : AV} {vv : Value} (hv : V Pr ρ v vv) (s : Nat) : ∀ {es es' : List AEnt} {ces : List MapEntry}, All2 (ER Pr ρ) es ces → stamp s v es = some es' →
    ∃ i, ces.findIdx? (fun e => (e.born : Int) == (s : Int)) = some i ∧ All2 (ER Pr ρ) es' (ces.modify i fun e => { e with val := vv })
  | _, es', _, .nil, h => by simp [stamp] at h
  | _, es', _, .cons (a := e) (b := c) he t, h => by
    simp only [stamp] at h
    cases hb : Nat.beq e.born s with
    | true =>
      rw [hb] at h; cases h
      have hb := Nat.eq_of_beq_eq_true hb
      have : ((c.born : Int) == (s : Int)) = true := by rw [← he.2.2, hb]; simp
      refine ⟨0, by simp [List.findIdx?_cons, this], ?_⟩
      simp only [List.modify_zero_cons]
      exact .cons ⟨he.1, hv, he.2.2⟩ t
    | false =>
      rw [hb] at h
      have hne : e.born ≠ s := fun q => by rw [q, Nat.beq_refl] at hb; cases hb
      have hcb : ((c.born : Int) == (s : Int)) = false := by
        rw [← he.2.2, beq_eq_false_iff_ne]; omega
      simp only [cond_false] at h
      cases hq : stamp s v _ with
      | none => rw [hq] at h; cases h
      | some r =>
        rw [hq] at h; cases h
        obtain ⟨i, g1, g2⟩ := stamp_sound hv s t hq
        refine ⟨i + 1, by simp [List.findIdx?_cons, hcb, g1], ?_⟩
        simp only [List.modify_succ_cons]
        exact .cons he g2

theorem snd_es (hw : WR Pr B w0 ρ h w) (t : TypeId) {m s v : AV} {mv sv vv : Value} (hm : V Pr ρ m mv) (hs : V Pr ρ s sv) (hv : V Pr ρ v vv) :
    Snd Pr B w0 ρ h w ((do Instr.entryStore t mv sv vv; pure .skip : Sem Next).run Pr w) (iEs h m s v) := by
  cases hm with
  | map hp =>
    rename_i p e
    cases hs with
    | int k n =>
      cases n with
      | ofNat n =>
        simp only [iEs]
        cases hc : h.get p with
        | map es c =>
          simp only
          have hO := hw.obj p e hp
          rw [hc] at hO
          obtain ⟨ces, o1, o2⟩ := hO
          cases hst : stamp n v es with
          | none => trivial
          | some es' =>
            obtain ⟨i, g1, g2⟩ := stamp_sound hv n o2 hst
            have hfi : ces.findIdx? (fun e => (e.born : Int) == (n : Int)) = some i := by
              have h0 := List.findIdx?_toArray (fun e : MapEntry => (e.born : Int) == (n : Int)) ces.toList
              rw [Array.toArray_toList] at h0; rw [h0]; exact g1
            obtain ⟨p1, p2, p3⟩ := hw.mapPut hp hc (es' := es') (c' := c) (ces' := ces.modify i fun e => { e with val := vv }) (by simpa using g2)
            refine ⟨ρ, undef, _, .inr ⟨?_, rfl⟩, V.undef, p2, p3⟩
            simp [Instr.entryStore, run_getObj o1, asInt, asIntOf, hfi, p1]
        | _ => trivial
      | negSucc n => trivial
    | _ => trivial
  | _ => cases hs <;> trivial

theorem eraseA_sound : ∀ {es : List AEnt} {ces : List MapEntry} (i : Nat), All2 (ER Pr ρ) es ces → All2 (ER Pr ρ) (eraseA i es) (ces.eraseIdx i)
  | _, _, i, .nil => by cases i <;> exact .nil
  | _, _, 0, .cons h t => t
  | _, _, i + 1, .cons h t => .cons h (eraseA_sound i t)


theorem snd_del (hw : WR Pr B w0 ρ h w) {t kt et : TypeId} (ht : Pr.underlying t = some (.map kt et)) {g : Sg} (hf : flatE Pr kt = some g) {ats : Array TypeId} (h0 : ats[0]? = some t) (ty : TypeId) {m k : AV} {mv kv : Value}
    (hm : V Pr ρ m mv) (hk : V Pr ρ k kv) : Snd Pr B w0 ρ h w ((do pure (.value (← Builtin.delete_ ats ty #[mv, kv])) : Sem Next).run Pr w) (iDel h g m k) := by
  unfold iDel
  cases hko : keyOk g k with
  | false => trivial
  | true =>
    have e0 : (#[mv, kv])[0]? = some mv := rfl
    have e1 : (#[mv, kv])[1]? = some kv := rfl
    simp only [Bool.not_true, cond_false]
    cases hm with
    | map0 =>
      refine ⟨_, .inl ?_, V.undef⟩
      have hck := keyOk_run (w := w) hf hk hko true
      simp only [Builtin.delete_, h0, e0, e1, Sem.run_bind, run_underlying ht, Result.andThen_ok, hck]
      rfl
    | map hp =>
      rename_i p e
      simp only
      cases hc : h.get p with
      | map es c =>
        simp only
        have hO := hw.obj p e hp
        rw [hc] at hO
        obtain ⟨ces, o1, o2⟩ := hO
        cases hfd : findA g k es 0 with
        | none => trivial
        | some r =>
          obtain ⟨r', f1, f2⟩ := findKey_sound (w := w) hf hk o2 hfd
          have hck := keyOk_run (w := w) hf hk hko ces.isEmpty
          cases r with
          | none =>
            cases r' with
            | some _ => exact f2.elim
            | none =>
              have hset : w.heap.setIfInBounds e.a (.map ces c) = w.heap := by
                apply Array.ext_getElem?
                intro j
                by_cases hj : e.a = j
                · subst hj; rw [Array.getElem?_setIfInBounds_self_of_lt (hw.bnd p e hp)]; exact o1.symm
                · rw [Array.getElem?_setIfInBounds_ne hj]
              refine ⟨.tuple #[], .inl ?_, V.undef⟩
              simp only [Builtin.delete_, h0, e0, e1, Sem.run_bind, run_underlying ht, Result.andThen_ok, run_getObj o1, hck, f1]
              simp [setObj, Sem.run, o1, hset]
          | some q =>
            cases r' with
            | none => exact f2.elim
            | some q' =>
              obtain ⟨i, x⟩ := q
              obtain ⟨i', x'⟩ := q'
              obtain ⟨rfl, hx⟩ := f2
              obtain ⟨p1, p2, p3⟩ := hw.mapPut hp hc (es' := eraseA i es) (c' := c) (ces' := ces.eraseIdxIfInBounds i) (by
                have := eraseA_sound i o2
                by_cases hi : i < ces.size
                · simp only [Array.eraseIdxIfInBounds, hi, dif_pos]; simpa using this
                · have h1 : ces.toList.eraseIdx i = ces.toList := List.eraseIdx_of_length_le (by simpa using hi)
                  rw [h1] at this
                  simp only [Array.eraseIdxIfInBounds, hi]; simpa using this)
              refine ⟨ρ, .tuple #[], _, .inl ?_, V.undef, p2, p3⟩
              simp only [Builtin.delete_, h0, e0, e1, Sem.run_bind, run_underlying ht, Result.andThen_ok, run_getObj o1, hck, f1]
              simp [p1]
      | _ => trivial
    | _ => trivial

-- iterators
theorem snd_rg (hw : WR Pr B w0 ρ h w) {t : TypeId} {str : Bool} (ht : (str = true ∧ Pr.underlying t = some .string) ∨ (str = false ∧ ∃ k e, Pr.underlying t = some (.map k e))) {x : AV} {v : Value} (hx : V Pr ρ x v) :
    Snd Pr B w0 ρ h w ((do pure (.value (← Instr.range t v)) : Sem Next).run Pr w) (iRg h str x) := by
  have hn : ρ h.nxt = none := (hw.fresh _ (Nat.le_refl _)).1
  rcases ht with ⟨rfl, ht⟩ | ⟨rfl, k, e, ht⟩
  · cases hx with
    | str hb =>
      rename_i s b
      have hm : WR Pr B w0 (upd ρ h.nxt ⟨w.heap.size, 0, 0, 0⟩) (h.new (.strIter s 0)) { w with heap := w.heap.push (.stringIter b 0) } := hw.alloc rfl rfl rfl rfl rfl ⟨rfl, b, rfl, hb⟩
      refine ⟨_, .pointer (some (ad ⟨w.heap.size, 0, 0, 0⟩ 0)), _, .inl ?_, .ptr (upd_same _ _ _), hm, hw.evo_alloc _ _⟩
      simp [Instr.range, run_underlying ht, ad]
    | _ => trivial
  · cases hx with
    | map0 =>
      have hm : WR Pr B w0 (upd ρ h.nxt ⟨w.heap.size, 0, 0, 0⟩) (h.new (.mapIter none 0 [] 0)) { w with heap := w.heap.push (.mapIter none 0 #[] 0) } := hw.alloc rfl rfl rfl rfl rfl ⟨rfl, none, rfl, rfl⟩
      refine ⟨_, .pointer (some (ad ⟨w.heap.size, 0, 0, 0⟩ 0)), _, .inl ?_, .ptr (upd_same _ _ _), hm, hw.evo_alloc _ _⟩
      simp [Instr.range, run_underlying ht, ad]
    | map hp =>
      rename_i p be
      simp only [iRg]
      cases hc : h.get p with
      | map es c =>
        simp only
        have hO := hw.obj p be hp
        rw [hc] at hO
        obtain ⟨ces, o1, o2⟩ := hO
        have hm : WR Pr B w0 (upd ρ h.nxt ⟨w.heap.size, 0, 0, 0⟩) (h.new (.mapIter (some p) c [] c)) { w with heap := w.heap.push (.mapIter (some be.a) c #[] c) } :=
          hw.alloc rfl rfl rfl rfl rfl ⟨rfl, some be.a, rfl, be, Ext.upd _ hn _ _ hp, rfl⟩
        refine ⟨_, .pointer (some (ad ⟨w.heap.size, 0, 0, 0⟩ 0)), _, .inl ?_, .ptr (upd_same _ _ _), hm, hw.evo_alloc _ _⟩
        simp [Instr.range, run_underlying ht, run_getObj o1, ad]
      | _ => trivial
    | _ => trivial

/-- an object of ours becomes another -/
theorem WR.objPut (hw : WR Pr B w0 ρ h w) {p : P} {e : BE} (hp : ρ p = some e) (ho : (h.get p).own = true) {o o' : Obj} (hr : w.heap[e.a]? = some o) (hnc : ∀ c t f, o ≠ .cells c t f) {ao : AObj} (hO : O Pr ρ (some o') ao e) :
    (setObj e.a o').run Pr w = .ok () { w with heap := w.heap.setIfInBounds e.a o' } ∧
    WR Pr B w0 ρ (h.set p ao) { w with heap := w.heap.setIfInBounds e.a o' } ∧ Evo ρ ρ h (h.set p ao) := by
  have hlt := hw.bnd p e hp
  refine ⟨?_, hw.put hp ho (fun b hb => by simp [Array.getElem?_setIfInBounds_ne (Ne.symm hb)]) (by simp) rfl rfl rfl (by simpa [hlt] using hO), hw.evo_set hp _⟩
  cases o <;> first | exact absurd rfl (hnc _ _ _) | simp only [setObj, Sem.run, hr]

theorem hasN_eq (n : Nat) : ∀ l, hasN n l = l.contains n
  | [] => rfl
  | a :: l => by
    simp only [hasN, hasN_eq n l, List.contains_cons, nbeq]
    by_cases hq : a = n
    · subst hq; simp
    · have : (n == a) = false := by simpa using fun q => hq q.symm
      simp [hq, this]

theorem left_sound (since : Nat) (seen : List Nat) : ∀ {es : List AEnt} {ces : List MapEntry}, All2 (ER Pr ρ) es ces →
    All2 (ER Pr ρ) (left since seen es).1 ((ces.filter fun e => !seen.contains e.born).filter fun e => decide (e.born < since)) ∧
    All2 (ER Pr ρ) (left since seen es).2 ((ces.filter fun e => !seen.contains e.born).filter fun e => decide (e.born ≥ since))
  | _, _, .nil => ⟨.nil, .nil⟩
  | _, _, .cons (a := e) (b := c) he t => by
    obtain ⟨i1, i2⟩ := left_sound since seen t
    simp only [left, hasN_eq]
    rw [List.filter_cons, he.2.2]
    cases hs : seen.contains c.born with
    | true =>
      simp only [Bool.not_true, Bool.false_eq_true, if_false, cond_true]
      exact ⟨i1, i2⟩
    | false =>
      simp only [Bool.not_false, if_true, cond_false]
      have hb : Nat.blt c.born since = decide (c.born < since) := by
        rw [Bool.eq_iff_iff, decide_eq_true_iff]; exact ⟨fun q => Nat.le_of_ble_eq_true q, fun q => Nat.ble_eq_true_of_le q⟩
      rw [hb, List.filter_cons, List.filter_cons]
      by_cases hlt : c.born < since
      · have hge : ¬ c.born ≥ since := by omega
        simp only [hlt, decide_true, cond_true, if_true, hge, decide_false, Bool.false_eq_true, if_false]
        exact ⟨.cons he i1, i2⟩
      · have hge : c.born ≥ since := by omega
        simp only [hlt, decide_false, cond_false, hge, decide_true, if_true, Bool.false_eq_true, if_false]
        exact ⟨i1, .cons he i2⟩

theorem allLater_eq (last : Nat) : ∀ {es : List AEnt} {ces : List MapEntry}, All2 (ER Pr ρ) es ces → allLater last es = ces.all fun e => decide (e.born ≥ last)
  | _, _, .nil => rfl
  | _, _, .cons (a := e) (b := c) he t => by
    simp only [allLater, List.all_cons, allLater_eq last t, he.2.2]
    have hb : Nat.ble last c.born = decide (c.born ≥ last) := by
      rw [Bool.eq_iff_iff, decide_eq_true_iff]; exact ⟨fun q => Nat.le_of_ble_eq_true q, fun q => Nat.ble_eq_true_of_le q⟩
    rw [hb]
    cases decide (c.born ≥ last) <;> simp

end
end Go.Proofs.YtlklnffmhclioaaGreatDoor.Ev

namespace Go.Proofs.YtlklnffmhclioaaGreatDoor.Ev
open Go.RowKit

section
variable {Pr : Program} {B : Nat} {w0 w : World} {ρ : En} {h : AH}

theorem All2.length_eq {α β : Type} {R : α → β → Prop} {l : List α} {r : List β} (h : All2 R l r) : l.length = r.length := h.length

theorem snd_nx (hw : WR Pr B w0 ρ h w) (str : Bool) (ty : TypeId) {it : AV} {v : Value} (hi : V Pr ρ it v) :
    Snd Pr B w0 ρ h w ((do pure (.value (← Instr.next v str ty)) : Sem Next).run Pr w) (iNx h str it) := by
  cases hi with
  | ptr hp =>
    rename_i p off e
    cases off with
    | succ n => trivial
    | zero =>
    simp only [iNx]
    have hO := hw.obj p e hp
    cases hc : h.get p with
    | strIter s pos =>
      simp only
      rw [hc] at hO
      obtain ⟨o0, b, o1, o2⟩ := hO
      have hv : ad e 0 = ⟨e.a, 0, none⟩ := by simp [ad, o0]
      rw [hv]
      have hg : (getObj e.a).run Pr w = .ok (.stringIter b pos) w := by simp [getObj, Sem.run, o1]
      cases str with
      | false => cases (dropL pos s) <;> trivial
      | true =>
        rw [dropL_eq]
        cases hd : s.drop pos with
        | nil =>
          have hge : ¬ pos < b.size := by
            have := congrArg List.length hd; subst o2; rw [List.length_drop, bytesA_len] at this; simp at this; omega
          exact ⟨_, .inl (by simp [Instr.next, hg, hge]), .tup (.cons (.bool false) .nil)⟩
        | cons c r =>
          simp only
          cases hb : Nat.blt c 128 with
          | false => trivial
          | true =>
            have hlt : c < 128 := Nat.le_of_ble_eq_true hb
            have hpos : pos < b.size := by
              have := congrArg List.length hd; subst o2; rw [List.length_drop, bytesA_len] at this; simp at this; omega
            have hc0 : (b.get! pos).toNat = c := by
              have h1 : s[pos]? = some c := by
                have := congrArg (fun l : List Nat => l[0]?) hd; simpa using this
              subst o2
              simp only [bytesA, List.getElem?_map, Option.map_eq_some_iff] at h1
              obtain ⟨x, x1, x2⟩ := h1
              rw [← x2]
              congr 1
              show b.data[pos]! = x
              have hx : b.data[pos]? = some x := by simpa using x1
              rw [getElem!_def, hx]
            have hdec : Utf8.decode b pos = (c, 1) := by
              unfold Utf8.decode
              simp only [Nat.add_zero, hc0]
              rw [if_pos (by omega)]
            obtain ⟨p1, p2, p3⟩ := hw.objPut hp (by rw [hc]; rfl) o1 (by simp) (o' := .stringIter b (pos + 1)) (ao := .strIter s (pos + 1)) ⟨o0, b, rfl, o2⟩
            refine ⟨ρ, .tuple #[.bool true, goInt pos, .int .i32 c], _, .inl ?_, .tup (.cons (.bool true) (.cons (.int _ _) (.cons (.int _ _) .nil))), p2, p3⟩
            simp [Instr.next, hg, hpos, hdec, p1]
    | mapIter m since seen last =>
      rw [hc] at hO
      obtain ⟨o0, m', o1, o2⟩ := hO
      have hv : ad e 0 = ⟨e.a, 0, none⟩ := by simp [ad, o0]
      rw [hv]
      have hg : (getObj e.a).run Pr w = .ok (.mapIter m' since seen.toArray last) w := by simp [getObj, Sem.run, o1]
      cases m with
      | none =>
        cases str with
        | true => trivial
        | false =>
          have o2 : m' = none := o2
          subst o2
          exact ⟨_, .inl (by simp [Instr.next, hg]), .tup (.cons (.bool false) .nil)⟩
      | some q =>
        obtain ⟨e', q1, q2⟩ := o2
        subst q2
        cases str with
        | true => trivial
        | false =>
          simp only [cond_false]
          cases hcm : h.get q with
          | map es c =>
            simp only
            have hO2 := hw.obj q e' q1
            rw [hcm] at hO2
            obtain ⟨ces, m1, m2⟩ := hO2
            have hgm := run_getObj (Pr := Pr) m1
            unfold nxMap
            cases hcond : (nonN seen && nonE es && allLater last es) with
            | true => trivial
            | false =>
              simp only [cond_false]
              have hcc : (!seen.toArray.isEmpty && !ces.isEmpty && ces.all fun x => decide (x.born ≥ last)) = false := by
                rw [allLater_eq last m2] at hcond
                have e1 : (!seen.toArray.isEmpty) = nonN seen := by cases seen <;> rfl
                have e2 : (!ces.isEmpty) = nonE es := by
                  have hl := m2.length
                  cases es with
                  | nil => have : ces = #[] := by simpa using hl.symm
                           subst this; rfl
                  | cons a l => cases hce : ces.isEmpty with
                    | false => rfl
                    | true => have : ces = #[] := by simpa using hce
                              subst this; simp at hl
                rw [e1, e2, ← hcond]
                congr 1
                rw [← Array.all_toList]
              obtain ⟨l1, l2⟩ := left_sound since seen m2
              generalize hL : left since seen es = L at l1 l2 ⊢
              obtain ⟨old, new⟩ := L
              simp only at l1 l2 ⊢
              -- what the machine has
              have hfl : (ces.filter fun e => !seen.toArray.contains e.born).toList = ces.toList.filter fun e => !seen.contains e.born := by simp
              have hold : ((ces.filter fun e => !seen.toArray.contains e.born).filter fun x => decide (x.born < since)).toList = (ces.toList.filter fun e => !seen.contains e.born).filter fun e => decide (e.born < since) := by
                rw [Array.toList_filter, hfl]
              have hnew : ((ces.filter fun e => !seen.toArray.contains e.born).filter fun x => decide (x.born ≥ since)).toList = (ces.toList.filter fun e => !seen.contains e.born).filter fun e => decide (e.born ≥ since) := by
                rw [Array.toList_filter, hfl]
              rw [← hold] at l1
              rw [← hnew] at l2
              generalize hA : ((ces.filter fun e => !seen.toArray.contains e.born).filter fun x => decide (x.born < since)) = A at l1
              generalize hBB : ((ces.filter fun e => !seen.toArray.contains e.born).filter fun x => decide (x.born ≥ since)) = BB at l2
              have step : ∀ (a : AEnt) (ce : MapEntry), ER Pr ρ a ce → ∃ w', (setObj e.a (.mapIter (some e'.a) since (seen.toArray.push ce.born) c)).run Pr w = .ok () w' ∧
                  WR Pr B w0 ρ (nxOne h p q since seen c a).2 w' ∧ Evo ρ ρ h (nxOne h p q since seen c a).2 ∧ V Pr ρ (nxOne h p q since seen c a).1 (.tuple #[.bool true, ce.key, ce.val]) := by
                intro a ce hac
                obtain ⟨p1, p2, p3⟩ := hw.objPut hp (by rw [hc]; rfl) o1 (by simp) (o' := .mapIter (some e'.a) since (seen.toArray.push ce.born) c) (ao := .mapIter (some q) since (seen ++ [a.born]) c)
                  ⟨o0, some e'.a, by rw [hac.2.2]; simp, e', q1, rfl⟩
                exact ⟨_, p1, p2, p3, .tup (.cons (.bool true) (.cons hac.1 (.cons hac.2.1 .nil)))⟩
              cases old with
              | nil =>
                have hA0 : A = #[] := by have := l1.length; simpa using this.symm
                subst hA0
                cases new with
                | nil =>
                  have hB0 : BB = #[] := by have := l2.length; simpa using this.symm
                  subst hB0
                  refine ⟨.tuple #[.bool false], .inl ?_, .tup (.cons (.bool false) .nil)⟩
                  have hcand : ((if (#[] : Array MapEntry).isEmpty = true then #[none] else #[]) ++ ((#[] : Array MapEntry) ++ #[]).map some : Array (Option MapEntry)) = #[none] := by simp
                  have hch : (choose (.mapNext (#[none] : Array (Option MapEntry)).size)).run Pr w = .ok 0 w := by simp [Question.forced]
                  have hi : (#[none] : Array (Option MapEntry))[0]? = some none := rfl
                  simp only [Instr.next, Sem.run_bind, hg, Result.andThen_ok, hgm, hcc, Bool.false_eq_true, if_false, Sem.run_pure, hA, hBB, hcand, hch, hi]
                | cons _ _ => trivial
              | cons a l =>
                cases new with
                | cons _ _ => cases l <;> trivial
                | nil =>
                  have hB0 : BB = #[] := by have := l2.length; simpa using this.symm
                  subst hB0
                  have hlen := l1.length
                  have hAne : A.isEmpty = false := by
                    cases hq : A.isEmpty with
                    | false => rfl
                    | true => have : A = #[] := by simpa using hq
                              subst this; simp at hlen
                  have hAs : A.size = l.length + 1 := by simpa using hlen.symm
                  -- the machine draws one of them
                  have pick : ∀ (j : Nat) (w2 : World), w2.heap = w.heap → w2.os = w.os → w2.tape = w.tape → w2.output = w.output → j < A.size → (choose (.mapNext A.size)).run Pr w = .ok j w2 →
                      ∃ a', (a :: l)[j]? = some a' ∧ ∃ v w', Gives ((do pure (.value (← Instr.next (.pointer (some ⟨e.a, 0, none⟩)) false ty)) : Sem Next).run Pr w) v w' ∧ V Pr ρ (nxOne h p q since seen c a').1 v ∧
                        WR Pr B w0 ρ (nxOne h p q since seen c a').2 w' ∧ Evo ρ ρ h (nxOne h p q since seen c a').2 := by
                    intro j w2 hh e1 e2 e3 hj hch
                    obtain ⟨a', g1, g2⟩ := l1.get (i := j) (b := A[j]) (by simp)
                    obtain ⟨w', s1, s2, s3, s4⟩ := step a' A[j] g2
                    refine ⟨a', g1, _, { w' with drawn := w2.drawn }, .inl ?_, s4, s2.drew rfl rfl rfl rfl, s3⟩
                    have hw2 : w2 = { w with drawn := w2.drawn } := by cases w2; cases w; simp_all
                    have hs1 : (setObj e.a (.mapIter (some e'.a) since (seen.toArray.push A[j].born) c)).run Pr w2 = .ok () { w' with drawn := w2.drawn } := by
                      rw [hw2]
                      simp only [setObj, Sem.run, o1] at s1 ⊢
                      cases s1; rfl
                    have hcand : ((if A.isEmpty = true then #[none] else #[]) ++ (A ++ #[]).map some : Array (Option MapEntry)) = A.map some := by simp [hAne]
                    have hidx : (A.map some : Array (Option MapEntry))[j]? = some (some A[j]) := by simp [hj]
                    simp only [Instr.next, Sem.run_bind, hg, Result.andThen_ok, hgm, hcc, Bool.false_eq_true, if_false, Sem.run_pure, hA, hBB, hcand, Array.size_map, hch, hidx, hs1]
                  cases l with
                  | nil =>
                    obtain ⟨a', g1, v, w', r1, r2, r3, r4⟩ := pick 0 w rfl rfl rfl rfl (by omega) (by simp [hAs, Question.forced])
                    have : a' = a := by simpa using g1.symm
                    subst this
                    exact ⟨ρ, v, w', r1, r2, r3, r4⟩
                  | cons a2 l =>
                    have hnf : (Question.mapNext A.size).forced = false := by
                      simp [Question.forced, hAs]
                    obtain ⟨a', g1, v, w', r1, r2, r3, r4⟩ := pick ((Question.mapNext A.size).cut (w.tape w.drawn (.mapNext A.size))) { w with drawn := w.drawn + 1 } rfl rfl rfl rfl
                      (by simp only [Question.cut]; exact Nat.mod_lt _ (by omega)) (by simp [hnf])
                    exact ⟨nxOne h p q since seen c a', List.mem_map.2 ⟨a', List.mem_of_getElem? g1, rfl⟩, v, w', r1, r2, r3, r4⟩
          | _ => trivial
    | _ => trivial
  | _ => trivial

end
end Go.Proofs.YtlklnffmhclioaaGreatDoor.Ev

namespace Go.Proofs.YtlklnffmhclioaaGreatDoor.Ev
open Go.RowKit

section
variable {Pr : Program} {B : Nat} {w0 w : World} {ρ : En} {h : AH}

theorem lastN_eq : ∀ l : List Nat, lastN l = l.getLast?
  | [] => rfl
  | [a] => rfl
  | a :: b :: l => by
    show lastN (b :: l) = _
    rw [lastN_eq (b :: l)]; simp

theorem entBorn_sound (s : Nat) : ∀ {es : List AEnt} {ces : List MapEntry} {e : AEnt}, All2 (ER Pr ρ) es ces → entBorn s es = some e → ∃ ce, ces.find? (·.born == s) = some ce ∧ ER Pr ρ e ce
  | _, _, e, .nil, he => by cases he
  | a :: l, b :: r, e, .cons hab ht, he => by
    simp only [entBorn] at he
    cases hb : Nat.beq a.born s with
    | true =>
      rw [hb] at he
      cases he
      have : a.born = s := Nat.eq_of_beq_eq_true hb
      exact ⟨b, by rw [List.find?_cons_of_pos]; rw [← hab.2.2]; simpa using this, hab⟩
    | false =>
      rw [hb] at he
      obtain ⟨ce, g1, g2⟩ := entBorn_sound s ht he
      refine ⟨ce, ?_, g2⟩
      rw [List.find?_cons_of_neg]
      · exact g1
      · rw [← hab.2.2]; intro hh; have : a.born = s := by simpa using hh
        rw [this] at hb; simp at hb

theorem snd_en (hw : WR Pr B w0 ρ h w) {it : AV} {v : Value} (hi : V Pr ρ it v) :
    Snd Pr B w0 ρ h w ((do pure (.value (← Instr.entry v)) : Sem Next).run Pr w) (iEn h it) := by
  cases hi with
  | ptr hp =>
    rename_i p off e
    cases off with
    | succ n => trivial
    | zero =>
    simp only [iEn]
    have hO := hw.obj p e hp
    cases hc : h.get p with
    | mapIter m since seen st =>
      rw [hc] at hO
      obtain ⟨o0, m', o1, o2⟩ := hO
      cases m with
      | none => trivial
      | some q =>
        obtain ⟨e', q1, q2⟩ := o2
        subst q2
        have hv : ad e 0 = ⟨e.a, 0, none⟩ := by simp [ad, o0]
        rw [hv]
        have hg : (getObj e.a).run Pr w = .ok (.mapIter (some e'.a) since seen.toArray st) w := by simp [getObj, Sem.run, o1]
        simp only
        cases hcm : h.get q with
        | map es c =>
          have hO2 := hw.obj q e' q1
          rw [hcm] at hO2
          obtain ⟨ces, m1, m2⟩ := hO2
          have hgm := run_getObj (Pr := Pr) m1
          cases hl : lastN seen with
          | none => trivial
          | some s =>
            simp only
            cases hb : Nat.beq c st with
            | false => trivial
            | true =>
              simp only [cond_true]
              have hcs : c = st := Nat.eq_of_beq_eq_true hb
              subst hcs
              have hbk : seen.toArray.back? = some s := by rw [← hl, lastN_eq]; simp
              cases he : entBorn s es with
              | none => trivial
              | some en =>
                obtain ⟨ce, g1, g2⟩ := entBorn_sound s m2 he
                have g1' : ces.find? (fun x => x.born == s) = some ce := by rw [← g1]; simp
                refine .val ?_ (.tup (.cons g2.1 (.cons g2.2.1 .nil)))
                simp only [Instr.entry, Sem.run_bind, hg, Result.andThen_ok, hbk, hgm, bne_self_eq_false, Bool.false_eq_true, if_false, g1', Sem.run_pure]
        | _ => trivial
    | _ => trivial
  | _ => trivial

section
variable {ats : Array TypeId} {t : TypeId} (h0 : ats[0]? = some t) (ty : TypeId)
include h0

theorem snd_lenS (ht : Pr.underlying t = some .string) {x : AV} {v : Value} (hx : V Pr ρ x v) :
    Snd Pr B w0 ρ h w ((do pure (.value (← Builtin.len_ ats ty #[v])) : Sem Next).run Pr w) (iLenS x) := by
  cases hx with
  | str hs =>
    rename_i s b
    refine .val (v := goInt b.size) ?_ ?_
    · simp [Builtin.len_, h0, run_underlying ht]
    · have : (bytesA b).length = b.size := bytesA_len b
      rw [← hs, this]; exact .int _ _
  | _ => trivial

theorem snd_lenL {e : TypeId} (ht : Pr.underlying t = some (.slice e)) {x : AV} {v : Value} (hx : V Pr ρ x v) :
    Snd Pr B w0 ρ h w ((do pure (.value (← Builtin.len_ ats ty #[v])) : Sem Next).run Pr w) (iLenL x) := by
  cases hx with
  | sl0 => exact .val (v := goInt 0) (by simp [Builtin.len_, h0, run_underlying ht]) (.int _ _)
  | slE hp hl => exact .val (v := goInt _) (by simp [Builtin.len_, h0, run_underlying ht]) (.int _ _)
  | slG hp hs ho hl => exact .val (v := goInt _) (by simp [Builtin.len_, h0, run_underlying ht]) (.int _ _)
  | _ => trivial

theorem snd_lenM (hw : WR Pr B w0 ρ h w) {k e : TypeId} (ht : Pr.underlying t = some (.map k e)) {x : AV} {v : Value} (hx : V Pr ρ x v) :
    Snd Pr B w0 ρ h w ((do pure (.value (← Builtin.len_ ats ty #[v])) : Sem Next).run Pr w) (iLenM h x) := by
  unfold iLenM
  cases hx with
  | map0 => exact .val (v := goInt 0) (by simp [Builtin.len_, h0, run_underlying ht]) (.int _ _)
  | map hp =>
    rename_i p be
    simp only [entries]
    have hO := hw.obj p be hp
    cases hc : h.get p with
    | map es c =>
      rw [hc] at hO
      obtain ⟨ces, m1, m2⟩ := hO
      have hgm := run_getObj (Pr := Pr) m1
      refine .val (v := goInt ces.size) (by simp [Builtin.len_, h0, run_underlying ht, hgm]) ?_
      have : es.length = ces.size := by have := m2.length; simpa using this
      rw [this]; exact .int _ _
    | _ => trivial
  | _ => trivial

theorem snd_lenC {n : Nat} (ht : (∃ e, Pr.underlying t = some (.array n e)) ∨ ∃ a e, Pr.underlying t = some (.pointer a) ∧ Pr.underlying a = some (.array n e)) (v : Value) :
    Snd Pr B w0 ρ h w ((do pure (.value (← Builtin.len_ ats ty #[v])) : Sem Next).run Pr w) (.v (.int .i64 (.ofNat n))) := by
  refine .val (v := goInt n) ?_ (.int _ _)
  rcases ht with ⟨e, ht⟩ | ⟨a, e, ht, ha⟩
  · simp [Builtin.len_, h0, run_underlying ht]
  · simp [Builtin.len_, h0, run_underlying ht, run_underlying ha]

theorem snd_cap {e : TypeId} (ht : Pr.underlying t = some (.slice e)) {x : AV} {v : Value} (hx : V Pr ρ x v) :
    Snd Pr B w0 ρ h w ((do pure (.value (← Builtin.cap_ ats ty #[v])) : Sem Next).run Pr w) (iCap x) := by
  cases hx with
  | sl0 => exact .val (v := goInt 0) (by simp [Builtin.cap_, h0, run_underlying ht]) (.int _ _)
  | slE hp hl => exact .val (v := goInt _) (by simp [Builtin.cap_, h0, run_underlying ht]) (.int _ _)
  | _ => trivial

theorem snd_clr (hw : WR Pr B w0 ρ h w) {e : TypeId} (ht : Pr.underlying t = some (.slice e)) {z : List AV} (hz : tZc Pr e = some z) {x : AV} {v : Value} (hx : V Pr ρ x v) :
    Snd Pr B w0 ρ h w ((do pure (.value (← Builtin.clear_ ats ty #[v])) : Sem Next).run Pr w) (iClr h z x) := by
  obtain ⟨zv, n, z1, z2, z3, z4, z5, z6⟩ := run_zc (w := w) (ρ := ρ) hz
  have key : ∀ {p : P} {be : BE} {off m : Nat} {h' : AH}, ρ p = some be → storeA h p off (repl z (m + 1)) = some h' → ∃ w', (storeCells (ad be off) (Builtin.zeroCells zv.cells (m + 1)).toList).run Pr w = .ok () w' ∧ WR Pr B w0 ρ h' w' ∧ Evo ρ ρ h h' := by
    intro p be off m h' hp hs
    by_cases hn : n = 0
    · have hz0 : z = [] := by have : z.length = 0 := by omega
                              simpa using this
      subst hz0
      have hr : repl ([] : List AV) (m + 1) = [] := by
        have := repl_length ([] : List AV) (m + 1); simpa using this
      rw [hr] at hs
      have hzc : (Builtin.zeroCells zv.cells (m + 1)).toList = [] := by
        have : (Builtin.zeroCells zv.cells (m + 1)).size = 0 := by simp [Builtin.zeroCells, z6, hn]
        have h2 : Builtin.zeroCells zv.cells (m + 1) = #[] := by simpa using this
        rw [h2]
      rw [hzc]
      exact hw.store hp hs .nil (by simp)
    · obtain ⟨y1, y2⟩ := zeros_sound z2 z3 z6 hn (m + 1)
      have hzc : (Builtin.zeroCells zv.cells (m + 1)) = ((Array.range ((m + 1) * n)).map fun i => zv.cells[i % zv.cells.size]!) := by
        unfold Builtin.zeroCells; rw [z6]
      rw [hzc]
      exact hw.store hp hs y1 y2
  cases hx with
  | sl0 => exact .val (v := .tuple #[]) (by simp [Builtin.clear_, h0, run_underlying ht]) .undef
  | slE hp hl =>
    rename_i p alt off len c be
    unfold iClr
    cases len with
    | zero => exact .val (v := .tuple #[]) (by simp [Builtin.clear_, h0, run_underlying ht]) .undef
    | succ m =>
      simp only
      cases hs : storeA h p off (repl z (m + 1)) with
      | none => trivial
      | some h' =>
        obtain ⟨w', g1, g2, g3⟩ := key hp hs
        exact ⟨ρ, .tuple #[], w', .inl (by simp [Builtin.clear_, h0, run_underlying ht, z1, g1]), .undef, g2, g3⟩
  | slG hp hs ho hl =>
    rename_i p alt off len g sz be
    unfold iClr
    cases len with
    | zero => exact .val (v := .tuple #[]) (by simp [Builtin.clear_, h0, run_underlying ht]) .undef
    | succ m =>
      simp only
      cases hs : storeA h p off (repl z (m + 1)) with
      | none => trivial
      | some h' =>
        obtain ⟨w', g1, g2, g3⟩ := key hp hs
        have : (if be.cap = g then alt else off) = off := addrG hl (by omega)
        rw [this]
        exact ⟨ρ, .tuple #[], w', .inl (by simp [Builtin.clear_, h0, run_underlying ht, z1, g1]), .undef, g2, g3⟩
  | _ => trivial

theorem snd_cpy (hw : WR Pr B w0 ρ h w) {e : TypeId} {sz : Nat} (ht : Pr.underlying t = some (.slice e)) (hs : tSz Pr e = some sz) {d x : AV} {dv xv : Value} (hd : V Pr ρ d dv) (hx : V Pr ρ x xv) :
    Snd Pr B w0 ρ h w ((do pure (.value (← Builtin.copy_ ats ty #[dv, xv])) : Sem Next).run Pr w) (iCpy h sz d x) := by
  unfold iCpy
  cases ha : lenD d with
  | none => trivial
  | some a =>
  cases hb : lenA x with
  | none => trivial
  | some b =>
  simp only
  have hlx := lenA_sound (w := w) (Pr := Pr) hx hb
  generalize hm : (bif Nat.ble a b then a else b) = m
  have hmin : Nat.min b a = m := by
    rw [← hm]
    cases hle : Nat.ble a b with
    | true => have := Nat.le_of_ble_eq_true hle; simp [Nat.min_eq_right this]
    | false =>
      have : ¬ a ≤ b := fun hh => by rw [Nat.ble_eq_true_of_le hh] at hle; cases hle
      simp [Nat.min_eq_left (show b ≤ a by omega)]
  have hmb : m ≤ b := by rw [← hmin]; exact Nat.min_le_left _ _
  have hma : m ≤ a := by rw [← hmin]; exact Nat.min_le_right _ _
  have e0 : (#[dv, xv] : Array Value)[0]? = some dv := rfl
  have e1 : (#[dv, xv] : Array Value)[1]? = some xv := rfl
  cases m with
  | zero =>
    simp only
    have hfc : (Builtin.firstCells sz 0 xv).run Pr w = .ok #[] w := by
      cases hx with
      | sl0 => simp [Builtin.firstCells]
      | slE hp hl => simp only [Builtin.firstCells, Nat.zero_mul]; exact run_loadCells (vs := []) (by simp)
      | slG hp hs ho hl => simp only [Builtin.firstCells, Nat.zero_mul]; exact run_loadCells (vs := []) (by simp)
      | str hs =>
        have hz : ∀ b : ByteArray, (b.extract 0 0).data.map (fun b => Value.int .u8 (Int.ofNat b.toNat)) = #[] := by
          intro b
          have h2 : (b.extract 0 0).data = #[] := by simp
          rw [h2]; simp
        simp only [Builtin.firstCells, Sem.run_pure]
        exact congrArg (fun x => Result.ok x w) (hz _)
      | _ => cases hb
    refine .val (v := goInt 0) ?_ (.int _ _)
    have key : ∀ base dl dc, dv = .slice base dl dc → dl = a → ((do pure (.value (← Builtin.copy_ ats ty #[dv, xv])) : Sem Next).run Pr w) = .ok (.value (goInt 0)) w := by
      intro base dl dc hdv hdl
      subst hdv hdl
      simp only [Builtin.copy_, h0, e0, e1, Sem.run_bind, run_underlying ht, Result.andThen_ok, hlx, hmin, run_sizeOf hs, hfc]
      cases base <;> simp [storeCells]
    cases hd with
    | sl0 => exact key _ _ _ rfl (by simpa [lenD] using ha)
    | slE hp hl => exact key _ _ _ rfl (by simpa [lenD] using ha)
    | slG hp hs ho hl => exact key _ _ _ rfl (by simpa [lenD] using ha)
    | _ => cases ha
  | succ n =>
    simp only
    cases he : elems h sz (n + 1) x with
    | none => trivial
    | some new =>
    obtain ⟨nv, g1, g2, g3, g4⟩ := elems_sound hw hx hb hmb he
    have g1 := g1 w rfl
    have key : ∀ {p : P} {be : BE} {off dl dc : Nat} {h' : AH} {alt : Nat} {c : Cap}, d = .sl p alt off dl c → ρ p = some be → dl = a → dv = .slice (some (ad be off)) dl dc → storeA h p off new = some h' →
        Snd Pr B w0 ρ h w ((do pure (.value (← Builtin.copy_ ats ty #[dv, xv])) : Sem Next).run Pr w) (.vh (.int .i64 (.ofNat (n + 1))) h') := by
      intro p be off dl dc h' alt c _ hp hdl hdv hst
      subst hdv hdl
      obtain ⟨w', s1, s2, s3⟩ := hw.store hp hst g2 g3
      refine ⟨ρ, goInt ((n + 1 : Nat)), w', .inl ?_, .int _ _, s2, s3⟩
      simp only [Builtin.copy_, h0, e0, e1, Sem.run_bind, run_underlying ht, Result.andThen_ok, hlx, hmin, run_sizeOf hs, g1, s1, Sem.run_pure]
    cases hd with
    | slE hp hl =>
      simp only
      split
      · rename_i hst; exact key rfl hp (by simpa [lenD] using ha) rfl hst
      · trivial
    | slG hp hs' ho hl =>
      rename_i p alt off len g gs be
      simp only
      have hlen : len = a := by simpa [lenD] using ha
      cases hst : storeA h p off new with
      | none => trivial
      | some h' =>
        refine key (dc := be.cap - g) rfl hp hlen ?_ hst
        rw [addrG hl (by omega)]
    | _ => trivial
end

theorem byteL_sound : ∀ {l : List AV} {s : List Nat} {r : List Value}, byteL l = some s → VL Pr ρ l r → ∃ ns : List Int, r = ns.map (Value.int .u8) ∧
    ∀ acc : ByteArray, bytesA (ns.foldl (fun r n => r.push (UInt8.ofNat n.toNat)) acc) = bytesA acc ++ s
  | [], s, _, hb, .nil => by cases hb; exact ⟨[], rfl, by simp⟩
  | a :: l, s, _, hb, .cons hv ht => by
    cases hv with
    | int k n =>
      cases k <;> try (simp [byteL] at hb; done)
      cases n with
      | negSucc n => simp [byteL] at hb
      | ofNat n =>
        simp only [byteL] at hb
        cases hlt : Nat.blt n 256 with
        | false => rw [hlt] at hb; cases hb
        | true =>
          rw [hlt] at hb
          simp only [cond_true] at hb
          cases hr : byteL l with
          | none => rw [hr] at hb; cases hb
          | some s' =>
            rw [hr] at hb; cases hb
            obtain ⟨ns, g1, g2⟩ := byteL_sound hr ht
            refine ⟨Int.ofNat n :: ns, by rw [g1]; rfl, fun acc => ?_⟩
            rw [List.foldl_cons, g2]
            have hn : n < 256 := Nat.le_of_ble_eq_true hlt
            have : bytesA (acc.push (UInt8.ofNat (Int.ofNat n).toNat)) = bytesA acc ++ [n] := by
              simp [bytesA, ByteArray.push]
              omega
            rw [this]; simp
    | _ => simp [byteL] at hb

theorem snd_cvb (hw : WR Pr B w0 ρ h w) {s d e : TypeId} (hs : Pr.underlying s = some (.slice e)) (hd : Pr.underlying d = some .string) (he : Pr.underlying e = some (.int .u8)) {x : AV} {v : Value} (hx : V Pr ρ x v) :
    Snd Pr B w0 ρ h w ((do pure (.value (← convert s d v)) : Sem Next).run Pr w) (iCvb h x) := by
  have key : ∀ {p : P} {be : BE} {alt off len c : Nat} {a : Addr} {cp : Cap}, V Pr ρ (.sl p alt off len cp) (.slice (some a) len c) → Snd Pr B w0 ρ h w ((do pure (.value (← convert s d (.slice (some a) len c))) : Sem Next).run Pr w) (iCvb h (.sl p alt off len cp)) := by
    intro p be alt off len c a cp hx
    unfold iCvb
    simp only
    cases hel : elems h 1 len (.sl p alt off len cp) with
    | none => trivial
    | some l =>
      simp only
      cases hb : byteL l with
      | none => trivial
      | some st =>
        obtain ⟨nv, g1, g2, g3, g4⟩ := elems_sound hw hx (m := len) rfl (Nat.le_refl _) hel
        obtain ⟨ns, k1, k2⟩ := byteL_sound hb g2
        have hl : (loadCells a len).run Pr w = .ok (ns.map (Value.int .u8)).toArray w := by
          have := g1 w rfl
          simp only [Builtin.firstCells, Nat.mul_one] at this
          rw [this, ← k1]
        have hr := run_bytesToString w a len c ns hl
        have hz : bytesA ByteArray.empty = [] := rfl
        refine .val (v := .string (ns.foldl (fun r n => r.push (UInt8.ofNat n.toNat)) ByteArray.empty)) ?_ (.str (by rw [k2, hz]; simp))
        simp only [Sem.run_bind]
        have hcv : (convert s d (.slice (some a) len c)).run Pr w = (Conv.bytesToString (.slice (some a) len c)).run Pr w := by
          simp [convert, run_underlying hs, run_underlying hd, run_underlying he]
        rw [hcv, hr]
        simp
  cases hx with
  | sl0 =>
    refine .val (v := .string .empty) ?_ (.str rfl)
    simp [convert, run_underlying hs, run_underlying hd, run_underlying he, Conv.bytesToString]
  | slE hp hl => exact key (be := ⟨0, 0, 0, 0⟩) (.slE hp hl)
  | slG hp hs ho hl => exact key (be := ⟨0, 0, 0, 0⟩) (.slG hp hs ho hl)
  | _ => trivial

end
end Go.Proofs.YtlklnffmhclioaaGreatDoor.Ev

namespace Go.Proofs.YtlklnffmhclioaaGreatDoor.Ev
open Go.RowKit

section
variable {Pr : Program} {B : Nat} {w0 w : World} {ρ : En} {h : AH}

theorem snd_mv {x : AV} {v : Value} (hx : V Pr ρ x v) : Snd Pr B w0 ρ h w ((pure (.value v) : Sem Next).run Pr w) (.v x) := .val (by simp) hx

theorem cOpt_sound {tm : T AV} {ev : Operand → Value} {o : Option Operand} {y : Option Opd} (hc : cOpt Pr o = some y) (hx : ∀ x ∈ o, OP Pr ρ tm ev x) : OV Pr ρ tm y (o.map ev) := by
  cases o with
  | none => cases hc; trivial
  | some x =>
    simp only [cOpt, Option.map_eq_some_iff] at hc
    obtain ⟨z, hz, rfl⟩ := hc
    exact hx x rfl z hz

theorem cOpt_isSome {o : Option Operand} {y : Option Opd} (hc : cOpt Pr o = some y) : y.isSome = o.isSome := by
  cases o with
  | none => cases hc; rfl
  | some x =>
    simp only [cOpt, Option.map_eq_some_iff] at hc
    obtain ⟨z, hz, rfl⟩ := hc
    rfl

theorem Snd.mkmr (hw : WR Pr B w0 ρ h w) {t k e : TypeId} (ht : Pr.underlying t = some (.map k e)) {x : AV} {v : Value} (hx : V Pr ρ x v) :
    Snd Pr B w0 ρ h w ((do pure (.value (← Instr.makeMap t (some v))) : Sem Next).run Pr w) (iMkmr h x) := by
  cases hx with
  | int kk n => exact snd_mkm hw t _ (.inr ⟨⟨k, e, ht⟩, kk, n, rfl⟩)
  | _ => trivial

theorem tSz_eq {t : TypeId} {n : Nat} : tSz Pr t = some n → tSz Pr t = some n := id

/-- what appends elements of a slice or a string -/
theorem snd_app (hw : WR Pr B w0 ρ h w) {st el : TypeId} {sz : Nat} (ht : Pr.underlying st = some (.slice el)) (hel : tEl Pr el = some sz) {ats : Array TypeId} (h0 : ats[0]? = some st)
    (hu : ∀ u, ats[1]? = some u → ∃ d, Pr.underlying u = some d ∧ ∀ k, d ≠ .int k) (ty : TypeId) {s x : AV} {sv xv : Value} (hs : V Pr ρ s sv) (hx : V Pr ρ x xv) :
    Snd Pr B w0 ρ h w ((do pure (.value (← Builtin.append_ ats ty #[sv, xv])) : Sem Next).run Pr w) (iApp h sz s x) := by
  unfold iApp
  cases hl : lenA x with
  | none => trivial
  | some n =>
    simp only
    cases he : elems h sz n x with
    | none => trivial
    | some new =>
      obtain ⟨nv, g1, g2, g3, g4⟩ := elems_sound hw hx hl (Nat.le_refl _) he
      exact snd_appE hw ht hel h0 ty hs (.inl ⟨hu, lenA_sound hx hl, g1⟩) g2 g3 g4

theorem snd_apz (hw : WR Pr B w0 ρ h w) {st el u : TypeId} {sz : Nat} {k : IntKind} (ht : Pr.underlying st = some (.slice el)) (hel : tEl Pr el = some sz) {z : List AV} (hz : tZc Pr el = some z) {ats : Array TypeId} (h0 : ats[0]? = some st)
    (h1 : ats[1]? = some u) (hu : Pr.underlying u = some (.int k)) (ty : TypeId) {s x : AV} {sv xv : Value} (hs : V Pr ρ s sv) (hx : V Pr ρ x xv) :
    Snd Pr B w0 ρ h w ((do pure (.value (← Builtin.append_ ats ty #[sv, xv])) : Sem Next).run Pr w) (iApz h sz z s x) := by
  unfold iApz
  cases hn : natOf x with
  | none => trivial
  | some n =>
    simp only
    cases hb : Nat.blt n 100000 with
    | false => trivial
    | true =>
      simp only [cond_true]
      have hlt : n < 100000 := Nat.le_of_ble_eq_true hb
      obtain ⟨kk, rfl⟩ := natOf_sound hn hx
      obtain ⟨i, zz, q1, q2, q3, q4, q5, q6⟩ := tEl_spec hel
      obtain ⟨zv, m, z1, z2, z3, z4, z5, z6⟩ := run_zc (w := w) (ρ := ρ) hz
      have hm : m = sz := by rw [z4] at q5; cases q5; rfl
      subst hm
      have hzv : ∀ w' : World, (zeroValue el).run Pr w' = .ok zv w' := by
        intro w'
        obtain ⟨zv', m', y1, y2, y3, y4, y5, y6⟩ := run_zc (w := w') (ρ := ρ) hz
        have e1 : tZero Pr el ≠ none := by
          intro hh; rw [tZc] at hz; rw [hh] at hz; cases hz
        cases hzz : tZero Pr el with
        | none => exact absurd hzz e1
        | some a =>
          simp only [zeroValue, typeInfo, Sem.run_bind] at z1 ⊢
          cases hzr : i.zero with
          | none => simp [q1, hzr] at z1
          | some zr =>
            simp [q1, hzr] at z1 ⊢
            exact z1
      obtain ⟨y1, y2⟩ := zeros_sound z2 z3 z6 q3 n
      refine snd_appE hw ht hel h0 ty hs (.inr ⟨u, k, kk, i, zv, h1, hu, rfl, hlt, q1, q4, q3, hzv, z6, ?_⟩) y1 y2 ?_
      · rfl
      · rw [repl_length, z5]

theorem snd_mn (mx : Bool) (ats : Array TypeId) (ty : TypeId) {x : AV} {v : Value} {r : List AV} {us : List Value} (hx : V Pr ρ x v) (hr : VL Pr ρ r us) {args : Array Value} (ha : args.toList = v :: us) :
    Snd Pr B w0 ρ h w ((do pure (.value (← (if mx then Builtin.max_ else Builtin.min_) ats ty args)) : Sem Next).run Pr w) (iMn mx x r) := by
  cases hx with
  | int k a =>
    simp only [iMn]
    have := snd_minmax (Pr := Pr) (w := w) (ρ := ρ) mx (k := k) (a := a) hr
    generalize mnL mx k a r = R at this ⊢
    cases R <;> try (exact this.elim)
    · obtain ⟨v, g1, g2⟩ := this
      refine .val (v := v) ?_ g2
      cases mx
      · simp only [Bool.false_eq_true, if_false] at g1 ⊢
        simp only [Builtin.min_, ha, Sem.run_bind, g1, Result.andThen_ok, Sem.run_pure]
      · simp only [if_true] at g1 ⊢
        simp only [Builtin.max_, ha, Sem.run_bind, g1, Result.andThen_ok, Sem.run_pure]
    · trivial
  | _ => trivial

theorem snd_pan {x : AV} {v : Value} (hx : V Pr ρ x v) : Snd Pr B w0 ρ h w ((do pure (.value (← Instr.panic v)) : Sem Next).run Pr w) (iPan x) := by
  cases hx with
  | iface hv =>
    rename_i t a u
    refine ⟨.iface t u, ?_, .iface hv⟩
    simp [Instr.panic, goPanic, Sem.run]
  | _ => trivial

theorem snd_dfr {f : AV} {args : List AV} {v : Value} {vs : Array Value} (hf : V Pr ρ f v) (ha : VL Pr ρ args vs.toList) :
    Snd Pr B w0 ρ h w ((do pure (.defer (← Deferred.ofValue v vs)) : Sem Next).run Pr w) (iDfr f args) := by
  cases hf with
  | fn hp hfn h1 h2 =>
    rename_i p first cap fn f' fs cs
    refine ⟨{ target := .fn fn cs, args := fs ++ vs }, by simp [Deferred.ofValue], .call hp hfn h2 ?_⟩
    simpa using h1.append ha
  | _ => trivial

end
end Go.Proofs.YtlklnffmhclioaaGreatDoor.Ev

namespace Go.Proofs.YtlklnffmhclioaaGreatDoor.Ev
open Go.RowKit

section
variable {Pr : Program} {B : Nat} {w0 w : World} {ρ : En} {h : AH}

theorem bind_some {α β : Type} {x : Option α} {f : α → Option β} {b : β} (h : (x >>= f) = some b) : ∃ a, x = some a ∧ f a = some b := by
  cases x with
  | none => cases h
  | some a => exact ⟨a, rfl, h⟩

/-- every operation that has been compiled does as the interpreter says -/
theorem cBuiltin_sound (hw : WR Pr B w0 ρ h w) {tm : T AV} {ev : Operand → Value} {b : Builtin} {ats : Array TypeId} {args : List Operand} {i : Ins} (hc : cBuiltin Pr b ats.toList args = some i)
    (hop : ∀ x ∈ args, OP Pr ρ tm ev x) (ty : TypeId) (consts : Array Bool) : Snd Pr B w0 ρ h w ((builtin b ats ty consts (args.map ev).toArray).run Pr w) (ins1 tm h i) := by
  unfold cBuiltin at hc
  obtain ⟨a, ha, hc⟩ := bind_some hc
  have hv := opds_sound ha hop
  have hd : ∀ {t}, ats.toList.head? = some t → ats[0]? = some t := by
    intro t ht
    rw [← ht]; cases ats with | mk l => cases l <;> simp
  split at hc
  all_goals (try (cases hc; done))
  -- len
  · rename_i x
    match args, hv with
    | [ax], .cons hx .nil =>
      obtain ⟨t, ht, hc⟩ := bind_some hc
      have h0 := hd ht
      split at hc
      · rename_i hu; cases hc; exact snd_lenS h0 ty hu hx
      · rename_i hu; cases hc; exact snd_lenL h0 ty hu hx
      · rename_i hu; cases hc; exact snd_lenM h0 ty hw hu hx
      · rename_i n e hu; cases hc; exact snd_lenC h0 ty (.inl ⟨e, hu⟩) _
      · rename_i p hu
        split at hc
        · rename_i n e hu2; cases hc; exact snd_lenC h0 ty (.inr ⟨p, e, hu, hu2⟩) _
        · cases hc
      · cases hc
  -- cap
  · rename_i x
    match args, hv with
    | [ax], .cons hx .nil =>
      obtain ⟨t, ht, hc⟩ := bind_some hc
      have h0 := hd ht
      split at hc
      · rename_i hu; cases hc; exact snd_cap h0 ty hu hx
      · cases hc
  -- append
  · rename_i s x
    match args, hv with
    | [as, ax], .cons hs (.cons hx .nil) =>
      split at hc
      · rename_i t u hts
        have h0 : ats[0]? = some t := hd (by rw [hts]; rfl)
        have h1 : ats[1]? = some u := by
          have : ats.toList[1]? = some u := by rw [hts]; rfl
          simpa using this
        split at hc
        · rename_i e k hu1 hu2
          obtain ⟨sz, hsz, hc⟩ := bind_some hc
          obtain ⟨z, hz, hc⟩ := bind_some hc
          cases hc
          exact snd_apz hw hu1 hsz hz h0 h1 hu2 ty hs hx
        · rename_i e d hni hu1 hu2
          obtain ⟨sz, hsz, hc⟩ := bind_some hc
          cases hc
          refine snd_app hw hu1 hsz h0 (fun u' hu' => ?_) ty hs hx
          rw [h1] at hu'; cases hu'
          exact ⟨d, hu2, fun k hk => hni k (by first | exact hk | (rw [← hk]))⟩
        · cases hc
      · rename_i t hts
        have h0 : ats[0]? = some t := hd (by rw [hts]; rfl)
        have h1 : ats[1]? = none := by
          have : ats.toList[1]? = none := by rw [hts]; rfl
          simpa using this
        split at hc
        · rename_i e hu1
          obtain ⟨sz, hsz, hc⟩ := bind_some hc
          cases hc
          exact snd_app hw hu1 hsz h0 (fun u' hu' => by rw [h1] at hu'; cases hu') ty hs hx
        · cases hc
      · cases hc
  -- copy
  · rename_i d x
    match args, hv with
    | [as, ax], .cons hs (.cons hx .nil) =>
      obtain ⟨t, ht, hc⟩ := bind_some hc
      have h0 := hd ht
      split at hc
      · rename_i e hu
        obtain ⟨sz, hsz, hc⟩ := bind_some hc
        cases hc
        exact snd_cpy h0 ty hw hu hsz hs hx
      · cases hc
  -- clear
  · rename_i x
    match args, hv with
    | [ax], .cons hx .nil =>
      obtain ⟨t, ht, hc⟩ := bind_some hc
      have h0 := hd ht
      split at hc
      · rename_i e hu
        obtain ⟨z, hz, hc⟩ := bind_some hc
        cases hc
        exact snd_clr h0 ty hw hu hz hx
      · cases hc
  -- min
  · rename_i x r
    cases hc
    match args, hv with
    | ax :: ar, .cons hx hr => exact snd_mn false ats ty hx hr rfl
  -- max
  · rename_i x r
    cases hc
    match args, hv with
    | ax :: ar, .cons hx hr => exact snd_mn true ats ty hx hr rfl
  -- delete
  · rename_i m k
    match args, hv with
    | [am, ak], .cons hm (.cons hk .nil) =>
      obtain ⟨t, ht, hc⟩ := bind_some hc
      have h0 := hd ht
      split at hc
      · rename_i kt et hu
        obtain ⟨g, hg, hc⟩ := bind_some hc
        cases hc
        exact snd_del hw hu hg h0 ty hm hk
      · cases hc
  -- recover
  · cases hc
    show (pure Next.recover : Sem Next).run Pr w = _
    simp
  -- panic
  · rename_i x
    cases hc
    match args, hv with
    | [ax], .cons hx .nil => exact snd_pan hx

end
end Go.Proofs.YtlklnffmhclioaaGreatDoor.Ev

namespace Go.Proofs.YtlklnffmhclioaaGreatDoor.Ev
open Go.RowKit

section
variable {Pr : Program} {B : Nat} {w0 w : World} {ρ : En} {h : AH}

theorem snd_eqc' {t : TypeId} {td : TypeDesc} (hu : Pr.underlying t = some td) (hk : td = .bool ∨ isAggD td = true) (ne : Bool) {op : BinOp} (hop : op = (if ne then .neq else .eql)) (x y : Operand) {ev : Operand → Value} {tm : T AV} {a b : Opd}
    (hx : V Pr ρ (opd tm a) (ev x)) (hy : V Pr ρ (opd tm b) (ev y)) {i : Ins} (hc : (if Pr.eqGuardType Pr.depth t then none else do some (.eqc (← flatE Pr t) ne a b)) = some i) :
    Snd Pr B w0 ρ h w ((do pure (.value (← (do eqGuard op t x y (ev x) (ev y); binOp op t (ev x) (ev y)))) : Sem Next).run Pr w) (ins1 tm h i) := by
  subst hop
  split at hc
  · cases hc
  · rename_i hg
    obtain ⟨g, hf, hc⟩ := bind_some hc
    cases hc
    refine snd_eqc hf (by simpa using hg) ?_ ne x y hx hy
    rcases hk with rfl | hk
    · exact .inl hu
    · right
      have h1 := (flatE_spec hf).1
      rw [tAgg_of hu, hk] at h1
      exact (Option.some.inj h1).symm

theorem cOp_sound (hw : WR Pr B w0 ρ h w) {tm : T AV} {ev : Operand → Value} (hev : ∀ f, ev (.func f) = .func (.func f) #[] #[]) {o : Oper} {i : Ins} (hc : cOp Pr o.op = some i)
    (hop : ∀ x ∈ o.op.operands.toList, OP Pr ρ tm ev x) : Snd Pr B w0 ρ h w ((execOp ev o).run Pr w) (ins1 tm h i) := by
  generalize hoo : o.op = op at hc hop
  cases op with
  | move x =>
    unfold execOp; rw [hoo]; simp only
    obtain ⟨y, hy, hc⟩ := bind_some (show (cOpd Pr x >>= fun y => some (.mv y)) = some i from hc); cases hc
    exact snd_mv (hop x (by simp [Op.operands]) y hy)
  | assign x =>
    unfold execOp; rw [hoo]; simp only
    obtain ⟨y, hy, hc⟩ := bind_some (show (cOpd Pr x >>= fun y => some (.mv y)) = some i from hc); cases hc
    exact snd_mv (hop x (by simp [Op.operands]) y hy)
  | pick c a b =>
    unfold execOp; rw [hoo]; simp only
    simp only [cOp] at hc
    obtain ⟨c', hc', hc⟩ := bind_some hc
    obtain ⟨a', ha', hc⟩ := bind_some hc
    obtain ⟨b', hb', hc⟩ := bind_some hc
    cases hc
    exact snd_pick (hop c (by simp [Op.operands]) _ hc') (hop a (by simp [Op.operands]) _ ha') (hop b (by simp [Op.operands]) _ hb')
  | alloc e =>
    unfold execOp; rw [hoo]; simp only
    simp only [cOp] at hc
    obtain ⟨z, hz, hc⟩ := bind_some hc; cases hc
    exact snd_new hw hz
  | box t x =>
    unfold execOp; rw [hoo]; simp only
    simp only [cOp] at hc
    obtain ⟨y, hy, hc⟩ := bind_some hc; cases hc
    exact snd_box hw t (hop x (by simp [Op.operands]) _ hy)
  | build t ps =>
    unfold execOp; rw [hoo]; simp only
    simp only [cOp] at hc
    have hps : ∀ p ∈ ps.toList, OP Pr ρ tm ev p.2 := fun p hp => hop p.2 (by simp only [Op.operands, List.mem_map]; exact ⟨p, hp, rfl⟩)
    split at hc
    · rename_i fs ht
      split at hc
      · rename_i hall
        obtain ⟨z, hz, hc⟩ := bind_some hc
        obtain ⟨q, hq, hc⟩ := bind_some hc
        cases hc
        exact snd_bld_struct ht hall hz hq hps
      · cases hc
    · rename_i n e ht
      obtain ⟨sz, hsz, hc⟩ := bind_some hc
      obtain ⟨z, hz, hc⟩ := bind_some hc
      obtain ⟨q, hq, hc⟩ := bind_some hc
      cases hc
      exact snd_bld_arr ht hsz hz hq hps
    · cases hc
  | buildSlice t n ps =>
    unfold execOp; rw [hoo]; simp only
    simp only [cOp] at hc
    have hps : ∀ p ∈ ps.toList, OP Pr ρ tm ev p.2 := fun p hp => hop p.2 (by simp only [Op.operands, List.mem_map]; exact ⟨p, hp, rfl⟩)
    split at hc
    · rename_i e ht
      obtain ⟨sz, hsz, hc⟩ := bind_some hc
      split at hc
      · cases hc
      · rename_i hn
        obtain ⟨z, hz, hc⟩ := bind_some hc
        obtain ⟨q, hq, hc⟩ := bind_some hc
        cases hc
        exact snd_bsl hw ht hsz (by omega) (by omega) hz hq hps
    · cases hc
  | load t a =>
    unfold execOp; rw [hoo]; simp only
    simp only [cOp] at hc
    obtain ⟨b, hb, hc⟩ := bind_some hc
    cases b with
    | true =>
      obtain ⟨n, hn, hc⟩ := bind_some hc
      obtain ⟨y, hy, hc⟩ := bind_some hc
      cases hc
      exact snd_ldn hw hb hn (hop a (by simp [Op.operands]) _ hy)
    | false =>
      obtain ⟨y, hy, hc⟩ := bind_some hc
      cases hc
      exact snd_ld1 hw hb (hop a (by simp [Op.operands]) _ hy)
  | store t a x =>
    unfold execOp; rw [hoo]; simp only
    simp only [cOp] at hc
    obtain ⟨b, hb, hc⟩ := bind_some hc
    cases b with
    | true =>
      obtain ⟨n, hn, hc⟩ := bind_some hc
      obtain ⟨y, hy, hc⟩ := bind_some hc
      obtain ⟨z, hz, hc⟩ := bind_some hc
      cases hc
      exact snd_stn hw hn (hop a (by simp [Op.operands]) _ hy) (hop x (by simp [Op.operands]) _ hz)
    | false =>
      simp only [Bool.false_eq_true, if_false] at hc
      split at hc
      · rename_i hn
        obtain ⟨y, hy, hc⟩ := bind_some hc
        obtain ⟨z, hz, hc⟩ := bind_some hc
        cases hc
        exact snd_st1 hw hn (hop a (by simp [Op.operands]) _ hy) (hop x (by simp [Op.operands]) _ hz)
      · cases hc
  | nilCheck x =>
    simp only [cOp] at hc
    obtain ⟨y, hy, hc⟩ := bind_some hc; cases hc
    exact snd_nck hoo (hop x (by simp [Op.operands]) _ hy)
  | binOp op t x y yt =>
    unfold execOp; rw [hoo]; simp only
    simp only [cOp] at hc
    obtain ⟨a, ha, hc'⟩ := bind_some hc
    clear hc
    obtain ⟨b, hb, hc⟩ := bind_some hc'
    clear hc'
    have hx := hop x (by simp [Op.operands]) _ ha
    have hy := hop y (by simp [Op.operands]) _ hb
    clear hop hoo
    split at hc
    · cases hc; exact snd_bin _ t x y hx hy
    · cases hc; exact snd_bin _ t x y hx hy
    · rename_i hu; exact snd_eqc' hu (.inl rfl) false rfl x y hx hy hc
    · rename_i hu; exact snd_eqc' hu (.inr rfl) false rfl x y hx hy hc
    · rename_i hu; exact snd_eqc' hu (.inr rfl) false rfl x y hx hy hc
    · rename_i hu; exact snd_eqc' hu (.inl rfl) true rfl x y hx hy hc
    · rename_i hu; exact snd_eqc' hu (.inr rfl) true rfl x y hx hy hc
    · rename_i hu; exact snd_eqc' hu (.inr rfl) true rfl x y hx hy hc
    · rename_i hu; cases hc; exact snd_nul (.inl ⟨rfl, _, hu⟩) false x y (fun h => by cases h) hx hy
    · rename_i hu; cases hc; exact snd_nul (.inl ⟨rfl, _, hu⟩) true x y (fun h => by cases h) hx hy
    · rename_i hu; cases hc; exact snd_nul (.inr (.inl ⟨rfl, _, hu⟩)) false x y (fun h => by cases h) hx hy
    · rename_i hu; cases hc; exact snd_nul (.inr (.inl ⟨rfl, _, hu⟩)) true x y (fun h => by cases h) hx hy
    · rename_i hu; cases hc; exact snd_nul (.inr (.inr (.inl ⟨rfl, _, _, hu⟩))) false x y (fun h => by cases h) hx hy
    · rename_i hu; cases hc; exact snd_nul (.inr (.inr (.inl ⟨rfl, _, _, hu⟩))) true x y (fun h => by cases h) hx hy
    · rename_i hu; cases hc; exact snd_nul (.inr (.inr (.inr (.inl ⟨rfl, _, _, _, hu⟩)))) false x y (fun h => by cases h) hx hy
    · rename_i hu; cases hc; exact snd_nul (.inr (.inr (.inr (.inl ⟨rfl, _, _, _, hu⟩)))) true x y (fun h => by cases h) hx hy
    · rename_i hu
      split at hc
      · rename_i hcc; cases hc; exact snd_nul (.inr (.inr (.inr (.inr ⟨rfl, _, hu⟩)))) false x y (fun _ => by simpa using hcc) hx hy
      · cases hc
    · rename_i hu
      split at hc
      · rename_i hcc; cases hc; exact snd_nul (.inr (.inr (.inr (.inr ⟨rfl, _, hu⟩)))) true x y (fun _ => by simpa using hcc) hx hy
      · cases hc
    · cases hc
  | unOp op t x =>
    unfold execOp; rw [hoo]; simp only
    cases op with
    | neg =>
      simp only [cOp] at hc
      obtain ⟨y, hy, hc⟩ := bind_some hc; cases hc
      exact snd_neg (hop x (by simp [Op.operands]) _ hy)
    | not =>
      simp only [cOp] at hc
      obtain ⟨y, hy, hc⟩ := bind_some hc; cases hc
      exact snd_not (hop x (by simp [Op.operands]) _ hy)
    | _ => simp [cOp] at hc
  | convert s d x =>
    unfold execOp; rw [hoo]; simp only
    simp only [cOp] at hc
    split at hc
    · rename_i hs hd
      obtain ⟨y, hy, hc⟩ := bind_some hc; cases hc
      exact snd_cvi hs hd (hop x (by simp [Op.operands]) _ hy)
    · rename_i hs hd
      obtain ⟨y, hy, hc⟩ := bind_some hc; cases hc
      exact snd_cvs hs hd (hop x (by simp [Op.operands]) _ hy)
    · rename_i hs hd
      obtain ⟨y, hy, hc⟩ := bind_some hc; cases hc
      exact snd_cvs hs hd (hop x (by simp [Op.operands]) _ hy)
    · rename_i e hs hd
      split at hc
      · rename_i he
        split at hc
        · obtain ⟨y, hy, hc⟩ := bind_some hc; cases hc
          exact snd_cvb hw hs hd he (hop x (by simp [Op.operands]) _ hy)
        · cases hc
      · cases hc
    · cases hc
  | makeInterface t x =>
    unfold execOp; rw [hoo]; simp only
    simp only [cOp] at hc
    split at hc
    · cases hc
    · rename_i d hni hu
      obtain ⟨y, hy, hc⟩ := bind_some hc; cases hc
      exact snd_mki hu (fun ms hm => hni ms (by rw [← hm]; try exact hu)) (hop x (by simp [Op.operands]) _ hy)
    · cases hc
  | makeFunc fn first cap =>
    unfold execOp; rw [hoo]; simp only
    have hf : ∀ {a : List Opd}, cOpds Pr first.toList = some a → VL Pr ρ (opds tm a) (first.map ev).toList := fun ha => by
      simpa using opds_sound ha (fun x hx => hop x (by simp only [Op.operands, Array.toList_append, List.mem_append]; exact .inl hx))
    have hcp : ∀ {a : List Opd}, cOpds Pr cap.toList = some a → VL Pr ρ (opds tm a) (cap.map ev).toList := fun ha => by
      simpa using opds_sound ha (fun x hx => hop x (by simp only [Op.operands, Array.toList_append, List.mem_append]; exact .inr hx))
    cases fn with
    | func f =>
      simp only [cOp] at hc
      obtain ⟨a, ha, hc⟩ := bind_some hc
      obtain ⟨b, hb, hc⟩ := bind_some hc
      cases hc
      exact .val (v := .func (.func f) (first.map ev) (cap.map ev)) (by simp [Instr.makeFunc]) (.fn rfl (.inl rfl) (hf ha) (hcp hb))
    | via t path f p =>
      cases p with
      | false => simp [cOp] at hc
      | true =>
      obtain ⟨path⟩ := path
      obtain ⟨cap⟩ := cap
      cases path with
      | cons _ _ => simp [cOp] at hc
      | nil =>
      cases cap with
      | cons _ _ => simp [cOp] at hc
      | nil =>
      simp only [cOp] at hc
      split at hc
      · rename_i u hu
        split at hc
        · cases hc
        · rename_i hne
          obtain ⟨a, ha, hc⟩ := bind_some hc
          cases hc
          refine .val (v := .func (.via t #[] f true) (first.map ev) #[]) (by simp [Instr.makeFunc]) (.fn rfl (.inr ⟨rfl, ?_, t, u, rfl, hu⟩) (hf ha) .nil)
          intro h0
          have hl := (hf ha).length
          rw [h0] at hl
          simp at hl hne
          exact hne (by simpa using hl.symm)
      · cases hc
    | _ => simp [cOp] at hc
  | makeMap t r =>
    unfold execOp; rw [hoo]; simp only
    cases r with
    | none =>
      simp only [cOp] at hc
      cases hc
      exact snd_mkm hw t none (.inl rfl)
    | some r =>
      simp only [cOp] at hc
      split at hc
      · rename_i k e hu
        obtain ⟨y, hy, hc⟩ := bind_some hc; cases hc
        exact Snd.mkmr hw hu (hop r (by simp [Op.operands]) _ hy)
      · cases hc
  | makeSlice t l c =>
    unfold execOp; rw [hoo]; simp only
    simp only [cOp] at hc
    split at hc
    · rename_i e hu
      obtain ⟨sz, hsz, hc⟩ := bind_some hc
      obtain ⟨z, hz, hc⟩ := bind_some hc
      obtain ⟨a, ha, hc⟩ := bind_some hc
      obtain ⟨b, hb, hc⟩ := bind_some hc
      cases hc
      exact snd_mks hw hu hsz hz (hop l (by simp [Op.operands]) _ ha) (hop c (by simp [Op.operands]) _ hb)
    · cases hc
  | slice t x lo hi mx =>
    unfold execOp; rw [hoo]; simp only
    simp only [cOp] at hc
    obtain ⟨x', hx', hc⟩ := bind_some hc
    obtain ⟨lo', hlo', hc⟩ := bind_some hc
    obtain ⟨hi', hhi', hc⟩ := bind_some hc
    obtain ⟨mx', hmx', hc⟩ := bind_some hc
    have hx := hop x (by simp [Op.operands]) _ hx'
    have hlo := cOpt_sound (ev := ev) (tm := tm) (ρ := ρ) hlo' (fun z hz => hop z (by simp [Op.operands]; exact .inr (.inl hz)))
    have hhi := cOpt_sound (ev := ev) (tm := tm) (ρ := ρ) hhi' (fun z hz => hop z (by simp [Op.operands]; exact .inr (.inr (.inl hz))))
    have hmx := cOpt_sound (ev := ev) (tm := tm) (ρ := ρ) hmx' (fun z hz => hop z (by simp [Op.operands]; exact .inr (.inr (.inr hz))))
    split at hc
    · cases hc
    · rename_i hmm
      have hm : mx'.isSome = true → hi'.isSome = true := fun h1 => by
        cases h2 : hi' with
        | none => rw [h1, h2] at hmm; simp at hmm
        | some _ => rfl
      split at hc
      · rename_i hu
        split at hc
        · cases hc
        · rename_i hn
          cases hc
          have : mx = none := by
            cases mx with
            | none => rfl
            | some z => have := cOpt_isSome hmx'; simp at this; rw [this] at hn; simp at hn
          subst this
          exact snd_slt hu hx hlo hhi
      · rename_i e hu
        obtain ⟨sz, hsz, hc⟩ := bind_some hc; cases hc
        exact snd_sls hu hsz hx hlo hhi hmx hm
      · rename_i n e hu
        obtain ⟨sz, hsz, hc⟩ := bind_some hc; cases hc
        exact snd_sla (.inl hu) hsz hx hlo hhi hmx hm
      · rename_i a hu
        split at hc
        · rename_i n e hu2
          obtain ⟨sz, hsz, hc⟩ := bind_some hc; cases hc
          exact snd_sla (.inr ⟨a, hu, hu2⟩) hsz hx hlo hhi hmx hm
        · cases hc
      · cases hc
  | fieldAddr s x j =>
    unfold execOp; rw [hoo]; simp only
    simp only [cOp] at hc
    split at hc
    · rename_i fs hu
      obtain ⟨f, hf, hc⟩ := bind_some hc
      obtain ⟨n, hn, hc⟩ := bind_some hc
      split at hc
      · cases hc
      · rename_i h0
        obtain ⟨y, hy, hc⟩ := bind_some hc; cases hc
        exact snd_fa hu hf hn h0 (hop x (by simp [Op.operands]) _ hy)
    · cases hc
  | field t x j =>
    unfold execOp; rw [hoo]; simp only
    simp only [cOp] at hc
    split at hc
    · rename_i fs hu
      obtain ⟨f, hf, hc⟩ := bind_some hc
      obtain ⟨n, hn, hc⟩ := bind_some hc
      obtain ⟨b, hb, hc⟩ := bind_some hc
      cases b with
      | true =>
        obtain ⟨y, hy, hc⟩ := bind_some hc
        cases hc
        exact snd_fld hu hf hb hn (hop x (by simp [Op.operands]) _ hy)
      | false =>
        obtain ⟨y, hy, hc⟩ := bind_some hc
        cases hc
        have := snd_fld (B := B) (w0 := w0) (w := w) (h := h) hu hf hb hn (hop x (by simp [Op.operands]) _ hy)
        have he : iFld false f.offset 1 (opd tm y) = iFld false f.offset n (opd tm y) := by cases opd tm y <;> rfl
        show Snd Pr B w0 ρ h w _ (iFld false f.offset 1 (opd tm y))
        rw [he]; exact this
    · cases hc
  | indexAddr t x j =>
    unfold execOp; rw [hoo]; simp only
    simp only [cOp] at hc
    split at hc
    · rename_i e hu
      obtain ⟨sz, hsz, hc⟩ := bind_some hc
      obtain ⟨a, ha, hc⟩ := bind_some hc
      obtain ⟨b, hb, hc⟩ := bind_some hc
      cases hc
      exact snd_ia hu hsz (hop x (by simp [Op.operands]) _ ha) (hop j (by simp [Op.operands]) _ hb)
    · rename_i n e hu
      obtain ⟨sz, hsz, hc⟩ := bind_some hc
      obtain ⟨a, ha, hc⟩ := bind_some hc
      obtain ⟨b, hb, hc⟩ := bind_some hc
      cases hc
      exact snd_iaa hu hsz (hop x (by simp [Op.operands]) _ ha) (hop j (by simp [Op.operands]) _ hb)
    · cases hc
  | index t x j =>
    unfold execOp; rw [hoo]; simp only
    simp only [cOp] at hc
    split at hc
    · rename_i hu
      obtain ⟨a, ha, hc⟩ := bind_some hc
      obtain ⟨b, hb, hc⟩ := bind_some hc
      cases hc
      exact snd_ixs hu (hop x (by simp [Op.operands]) _ ha) (hop j (by simp [Op.operands]) _ hb)
    · rename_i n e hu
      obtain ⟨sz, hsz, hc⟩ := bind_some hc
      obtain ⟨ag, hag, hc⟩ := bind_some hc
      obtain ⟨a, ha, hc⟩ := bind_some hc
      obtain ⟨b, hb, hc⟩ := bind_some hc
      cases hc
      exact snd_ixa hu hag hsz (hop x (by simp [Op.operands]) _ ha) (hop j (by simp [Op.operands]) _ hb)
    · cases hc
  | lookup t m k ok =>
    unfold execOp; rw [hoo]; simp only
    simp only [cOp] at hc
    split at hc
    · rename_i kt et hu
      obtain ⟨g, hg, hc⟩ := bind_some hc
      obtain ⟨z, hz, hc⟩ := bind_some hc
      obtain ⟨a, ha, hc⟩ := bind_some hc
      obtain ⟨b, hb, hc⟩ := bind_some hc
      cases hc
      exact snd_lk hw hu hg hz ok (hop m (by simp [Op.operands]) _ ha) (hop k (by simp [Op.operands]) _ hb)
    · cases hc
  | mapUpdate t m k x =>
    unfold execOp; rw [hoo]; simp only
    simp only [cOp] at hc
    split at hc
    · rename_i kt et hu
      obtain ⟨g, hg, hc⟩ := bind_some hc
      obtain ⟨a, ha, hc⟩ := bind_some hc
      obtain ⟨b, hb, hc⟩ := bind_some hc
      obtain ⟨c, hcc, hc⟩ := bind_some hc
      cases hc
      exact snd_mu hw hu hg (hop m (by simp [Op.operands]) _ ha) (hop k (by simp [Op.operands]) _ hb) (hop x (by simp [Op.operands]) _ hcc)
    · cases hc
  | insert t m k x =>
    unfold execOp; rw [hoo]; simp only
    simp only [cOp] at hc
    split at hc
    · rename_i kt et hu
      obtain ⟨g, hg, hc⟩ := bind_some hc
      obtain ⟨a, ha, hc⟩ := bind_some hc
      obtain ⟨b, hb, hc⟩ := bind_some hc
      obtain ⟨c, hcc, hc⟩ := bind_some hc
      cases hc
      exact snd_mu hw hu hg (hop m (by simp [Op.operands]) _ ha) (hop k (by simp [Op.operands]) _ hb) (hop x (by simp [Op.operands]) _ hcc)
    · cases hc
  | mapEntry t m k =>
    unfold execOp; rw [hoo]; simp only
    simp only [cOp] at hc
    split at hc
    · rename_i kt et hu
      obtain ⟨g, hg, hc⟩ := bind_some hc
      obtain ⟨z, hz, hc⟩ := bind_some hc
      obtain ⟨a, ha, hc⟩ := bind_some hc
      obtain ⟨b, hb, hc⟩ := bind_some hc
      cases hc
      exact snd_me hw hu hg hz (hop m (by simp [Op.operands]) _ ha) (hop k (by simp [Op.operands]) _ hb)
    · cases hc
  | entryStore t m s x =>
    unfold execOp; rw [hoo]; simp only
    simp only [cOp] at hc
    obtain ⟨a, ha, hc⟩ := bind_some hc
    obtain ⟨b, hb, hc⟩ := bind_some hc
    obtain ⟨c, hcc, hc⟩ := bind_some hc
    cases hc
    exact snd_es hw t (hop m (by simp [Op.operands]) _ ha) (hop s (by simp [Op.operands]) _ hb) (hop x (by simp [Op.operands]) _ hcc)
  | range t x =>
    unfold execOp; rw [hoo]; simp only
    simp only [cOp] at hc
    split at hc
    · rename_i hu
      obtain ⟨a, ha, hc⟩ := bind_some hc; cases hc
      exact snd_rg hw (.inl ⟨rfl, hu⟩) (hop x (by simp [Op.operands]) _ ha)
    · rename_i hu
      obtain ⟨a, ha, hc⟩ := bind_some hc; cases hc
      exact snd_rg hw (.inr ⟨rfl, _, _, hu⟩) (hop x (by simp [Op.operands]) _ ha)
    · cases hc
  | next it s =>
    unfold execOp; rw [hoo]; simp only
    simp only [cOp] at hc
    obtain ⟨a, ha, hc⟩ := bind_some hc; cases hc
    exact snd_nx hw s o.type (hop it (by simp [Op.operands]) _ ha)
  | entry it =>
    unfold execOp; rw [hoo]; simp only
    simp only [cOp] at hc
    obtain ⟨a, ha, hc⟩ := bind_some hc; cases hc
    exact snd_en hw (hop it (by simp [Op.operands]) _ ha)
  | typeAssert x xt a ok =>
    unfold execOp; rw [hoo]; simp only
    simp only [cOp] at hc
    split at hc
    · cases hc
    · rename_i d hni hu
      obtain ⟨z, hz, hc⟩ := bind_some hc
      obtain ⟨y, hy, hc⟩ := bind_some hc
      cases hc
      exact snd_ta hu (fun ms hm => hni ms (by rw [← hm]; try exact hu)) hz ok (hop x (by simp [Op.operands]) _ hy)
    · cases hc
  | extract t j =>
    unfold execOp; rw [hoo]; simp only
    simp only [cOp] at hc
    obtain ⟨a, ha, hc⟩ := bind_some hc; cases hc
    exact snd_ex j (hop t (by simp [Op.operands]) _ ha)
  | call c =>
    unfold execOp; rw [hoo]; simp only
    obtain ⟨callee, args, ats⟩ := c
    have hargs : ∀ x ∈ args.toList, OP Pr ρ tm ev x := fun x hx => hop x (by simp only [Op.operands, Call.operands, Array.toList_append, List.mem_append]; exact .inr hx)
    cases callee with
    | value f =>
      have gen : (do some (Ins.callv (← cOpd Pr f) (← cOpds Pr args.toList))) = some i → Snd Pr B w0 ρ h w ((do let d ← resolve ev ⟨.value f, args, ats⟩ o.type; invoke d.target d.args : Sem Next).run Pr w) (ins1 tm h i) := by
        intro hc
        obtain ⟨a, ha, hc⟩ := bind_some hc
        obtain ⟨b, hb, hc⟩ := bind_some hc
        cases hc
        refine ⟨ev f, args.map ev, hop f (by simp [Op.operands, Call.operands]) _ ha, by simpa using opds_sound hb hargs, rfl⟩
      cases f with
      | func f =>
        simp only [cOp] at hc
        obtain ⟨b, hb, hc⟩ := bind_some hc
        cases hc
        refine ⟨f, args.map ev, rfl, by simpa using opds_sound hb hargs, ?_⟩
        simp [resolve, hev, Deferred.ofValue, invoke]
      | tmp t => exact gen hc
      | const v => exact gen hc
      | global g => exact gen hc
    | builtin b =>
      simp only [cOp] at hc
      have he : (args.toList.map ev).toArray = args.map ev := by rw [← Array.toList_map]
      have key : ∀ consts, Snd Pr B w0 ρ h w ((builtin b ats o.type consts (args.map ev)).run Pr w) (ins1 tm h i) := fun consts => by
        have := cBuiltin_sound hw (ev := ev) (tm := tm) hc hargs o.type consts
        rwa [he] at this
      simp only [resolve, Sem.run_bind, Sem.run_pure, Result.andThen_ok, invoke]
      exact key _
    | invoke r m => simp [cOp] at hc
  | defer c =>
    unfold execOp; rw [hoo]; simp only
    obtain ⟨callee, args, ats⟩ := c
    have hargs : ∀ x ∈ args.toList, OP Pr ρ tm ev x := fun x hx => hop x (by simp only [Op.operands, Call.operands, Array.toList_append, List.mem_append]; exact .inr hx)
    cases callee with
    | value f =>
      simp only [cOp] at hc
      obtain ⟨a, ha, hc⟩ := bind_some hc
      obtain ⟨b, hb, hc⟩ := bind_some hc
      cases hc
      exact snd_dfr (hop f (by simp [Op.operands, Call.operands]) _ ha) (by simpa using opds_sound hb hargs)
    | _ => simp [cOp] at hc
  | panic x =>
    unfold execOp; rw [hoo]; simp only
    simp only [cOp] at hc
    obtain ⟨a, ha, hc⟩ := bind_some hc; cases hc
    exact snd_pan (hop x (by simp [Op.operands]) _ ha)
  | _ => simp [cOp] at hc

end
end Go.Proofs.YtlklnffmhclioaaGreatDoor.Ev

