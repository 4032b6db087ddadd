/-
  The operations answer as the model's do (2): operands, literals, numbers, texts, comparisons.
-/
import Derived.Test.YtnnilbambpfhiaaGreatDoorEv6
import Derived.Laws.StructEq
import Derived.Laws.Strings
namespace Go.Proofs.YtnnilbambpfhiaaGreatDoor.Ev
open Go
variable {P : Program} {E : Env} {w : World} {h : Heap}

/-! A frame. -/
structure FR (E : Env) (nt : Nat) (t : Tmps) (a : Act) : Prop where
  tmp : ∀ i v, tget t i = some v → AVR E v (a.tmps.getD i undef)
  size : a.tmps.size = nt
  defers : a.defers = []
theorem FR.mono {E' : Env} {nt : Nat} {t : Tmps} {a : Act} (hf : FR E nt t a) (hle : E.le E') : FR E' nt t a := ⟨fun i v hi => (hf.tmp i v hi).mono hle, hf.size, hf.defers⟩
theorem FR.put {nt : Nat} {t t' : Tmps} {a : Act} (hf : FR E nt t a) {dst : Option Tmp} {v : AV} {val : Value} (hp : putA nt dst v t = some t') (hv : AVR E v val) : FR E nt t' (a.put dst val) := by
  cases dst with
  | none => cases hp; exact hf
  | some d =>
    simp only [putA] at hp
    cases hb : Nat.blt d nt with
    | false => rw [hb] at hp; cases hp
    | true =>
      rw [hb] at hp; simp only [Option.some.injEq] at hp; subst hp
      have hlt := (blt_iff _ _).1 hb
      refine ⟨fun i u hi => ?_, by simp [Act.put, hf.size], hf.defers⟩
      by_cases e : i = d
      · subst e
        rw [tget_tset] at hi; cases hi
        simpa [Act.put, hf.size, hlt] using hv
      · rw [tget_tset_ne _ _ e] at hi
        have := hf.tmp i u hi
        simpa [Act.put, Array.getElem?_setIfInBounds_ne (Ne.symm e)] using this
/-- the unknowns lie in their bounds; the globals are the first blocks -/
structure EOk (X : Ctx) (E : Env) : Prop where
  inB : InB X.B E.ρ
  glob : ∀ g, g < X.G → ∃ κ, E.σ g = some (g, κ)
theorem EOk.mono {X : Ctx} {E' : Env} (h : EOk X E) (hle : E.le E') : EOk X E' := ⟨by rw [hle.2]; exact h.inB, fun g hg => let ⟨κ, hk⟩ := h.glob g hg; ⟨κ, hle.1 _ _ hk⟩⟩

/-! Operands. -/
theorem scOf_sound {v : Value} {s : SC} (hs : scOf v = some s) : SR E s v := by
  unfold scOf at hs
  split at hs <;> first | cases hs | skip
  · exact .bool _
  · exact .int _ (.c _)
  · exact .float _ _
  · exact .cplx _ _ _
  · exact .str _
  · exact .nilptr
  · exact .nilslice
  · exact .nilfunc
theorem scsOf_sound : ∀ {vs : List Value} {l : List SC}, scsOf vs = some l → All2 (SR E) l vs
  | [], l, hl => by cases hl; exact .nil
  | v :: r, l, hl => by
    simp only [scsOf] at hl
    cases h1 : scOf v with
    | none => simp [h1] at hl
    | some s =>
      cases h2 : scsOf r with
      | none => simp [h1, h2] at hl
      | some m =>
        simp only [h1, h2, Option.some.injEq] at hl
        subst hl
        exact .cons (scOf_sound h1) (scsOf_sound h2)
theorem v1Of_sound {v : Value} {x : V1} (hx : v1Of v = some x) : V1R E x v := by
  unfold v1Of at hx
  split at hx
  · rename_i cs
    cases h1 : scsOf cs.toList with
    | none => rw [h1] at hx; cases hx
    | some l =>
      rw [h1] at hx; cases hx
      have := V1R.agg (E := E) (scsOf_sound h1)
      simpa using this
  · cases h1 : scOf v with
    | none => rw [h1] at hx; cases hx
    | some s => rw [h1] at hx; cases hx; exact .sc (scOf_sound h1)
section
variable {X : Ctx} {nt : Nat} {t : Tmps} {a : Act}
theorem opd_sound (he : EOk X E) (hf : FR E nt t a) {x : Operand} {v : AV} (hx : opd X.G x t = some v) : AVR E v (a.eval x) := by
  cases x with
  | tmp i => exact hf.tmp i v hx
  | const c =>
    simp only [opd] at hx
    cases h1 : v1Of c with
    | none => rw [h1] at hx; cases hx
    | some y => rw [h1] at hx; cases hx; exact .one (v1Of_sound h1)
  | global g =>
    simp only [opd] at hx
    cases h1 : Nat.blt g X.G with
    | false => rw [h1] at hx; cases hx
    | true =>
      rw [h1] at hx; cases hx
      obtain ⟨κ, hk⟩ := he.glob g ((blt_iff _ _).1 h1)
      exact .one (.sc (.ptr hk))
  | func f => simp only [opd, Option.some.injEq] at hx; subst hx; exact .one (.sc (.func (vs := []) .nil))
theorem opd1_sound (he : EOk X E) (hf : FR E nt t a) {x : Operand} {v : V1} (hx : opd1 X.G x t = some v) : V1R E v (a.eval x) := by
  unfold opd1 at hx
  split at hx <;> first | cases hx | skip
  rename_i h1
  cases opd_sound he hf h1 with
  | one h => exact h
theorem opdS_sound (he : EOk X E) (hf : FR E nt t a) {x : Operand} {v : SC} (hx : opdS X.G x t = some v) : SR E v (a.eval x) := by
  unfold opdS at hx
  split at hx <;> first | cases hx | skip
  rename_i h1
  cases opd_sound he hf h1 with
  | one h => cases h with | sc h => exact h
theorem opdI_sound (he : EOk X E) (hf : FR E nt t a) {x : Operand} {k : IntKind} {n : Lin} (hx : opdI X.G x t = some (k, n)) : a.eval x = .int k (n.den E.ρ) := by
  unfold opdI at hx
  split at hx <;> first | cases hx | skip
  rename_i h1
  have := opd_sound he hf h1
  generalize a.eval x = u at this
  cases this with
  | one h => cases h with | sc h => cases h; rfl
theorem idxOf_sound (he : EOk X E) (hf : FR E nt t a) {x : Operand} {n : Nat} (hx : idxOf X.G x t = some n) : ∃ k, a.eval x = .int k (n : Int) := by
  unfold idxOf at hx
  cases h1 : opdI X.G x t with
  | none => rw [h1] at hx; cases hx
  | some p =>
    obtain ⟨k, m⟩ := p
    rw [h1] at hx
    have := opdI_sound he hf h1
    simp only at hx
    unfold natOf at hx
    split at hx <;> first | cases hx | skip
    exact ⟨k, this⟩
theorem opds1_cons (x : Operand) (r : List Operand) : opds1 X.G t (x :: r) = (match opd1 X.G x t with
      | some v => (match opds1 X.G t r with | some l => some (v :: l) | none => none)
      | none => none) := rfl
theorem opds1_sound (he : EOk X E) (hf : FR E nt t a) : ∀ {xs : List Operand} {vs : List V1}, opds1 X.G t xs = some vs → All2 (V1R E) vs (xs.map a.eval)
  | [], vs, hx => by
    have : some [] = some vs := hx
    cases this; exact .nil
  | x :: r, vs, hx => by
    rw [opds1_cons] at hx
    cases h1 : opd1 X.G x t with
    | none => simp [h1] at hx
    | some v =>
      cases h2 : opds1 X.G t r with
      | none => simp [h1, h2] at hx
      | some l =>
        simp only [h1, h2, Option.some.injEq] at hx
        subst hx
        exact .cons (opd1_sound he hf h1) (opds1_sound he hf h2)
theorem parts1_cons (x : Nat × Operand) (r : List (Nat × Operand)) : parts1 X.G t (x :: r) = (match opd1 X.G x.2 t with
      | some v => (match parts1 X.G t r with | some l => some ((x.1, v) :: l) | none => none)
      | none => none) := rfl
def PartR (E : Env) (x : Nat × V1) (y : Nat × Value) : Prop := x.1 = y.1 ∧ V1R E x.2 y.2
theorem parts1_sound (he : EOk X E) (hf : FR E nt t a) : ∀ {xs : List (Nat × Operand)} {vs : List (Nat × V1)}, parts1 X.G t xs = some vs → All2 (PartR E) vs (xs.map fun x => (x.1, a.eval x.2))
  | [], vs, hx => by
    have : some [] = some vs := hx
    cases this; exact .nil
  | x :: r, vs, hx => by
    rw [parts1_cons] at hx
    cases h1 : opd1 X.G x.2 t with
    | none => simp [h1] at hx
    | some v =>
      cases h2 : parts1 X.G t r with
      | none => simp [h1, h2] at hx
      | some l =>
        simp only [h1, h2, Option.some.injEq] at hx
        subst hx
        exact .cons ⟨rfl, opd1_sound he hf h1⟩ (parts1_sound he hf h2)
theorem ptrsOf_cons (x : Operand) (r : List Operand) : ptrsOf X.G t (x :: r) = (match opdS X.G x t with
      | some (.ptr id off) => (match ptrsOf X.G t r with | some l => some ((id, off) :: l) | none => none)
      | _ => none) := rfl
theorem ptrsOf_sound (he : EOk X E) (hf : FR E nt t a) : ∀ {xs : List Operand} {vs : List (Nat × Nat)}, ptrsOf X.G t xs = some vs → All2 (PR E) vs (xs.map a.eval)
  | [], vs, hx => by
    have : some [] = some vs := hx
    cases this; exact .nil
  | x :: r, vs, hx => by
    rw [ptrsOf_cons] at hx
    split at hx <;> first | cases hx | skip
    rename_i id off h1
    cases h2 : ptrsOf X.G t r with
    | none => simp [h2] at hx
    | some l =>
      simp only [h2, Option.some.injEq] at hx
      subst hx
      have := opdS_sound he hf h1
      refine .cons ?_ (ptrsOf_sound he hf h2)
      generalize hv : a.eval x = u at this
      cases this with
      | ptr hσ => exact ⟨_, _, hσ, rfl⟩
end
theorem ptrArgs_sound : ∀ {l : List (Nat × Nat)} {vs : List Value}, All2 (PR E) l vs → All2 (V1R E) (ptrArgs l) vs
  | _, _, .nil => .nil
  | _, _, .cons ⟨b, κ, h1, h2⟩ t => .cons (by rw [h2]; exact .sc (.ptr h1)) (ptrArgs_sound t)

/-! Zero values, literals. -/
theorem zeroOf_sound {t : TypeId} {z : List SC} (hz : zeroOf P t = some z) (w : World) : ∃ v, (zeroValue t).run P w = .ok v w ∧ All2 (SR E) z v.cells.toList := by
  unfold zeroOf at hz
  cases hi : P.info? t with
  | none => rw [hi] at hz; cases hz
  | some i =>
    rw [hi] at hz
    simp only at hz
    cases h0 : i.zero with
    | none => rw [h0] at hz; cases hz
    | some v =>
      rw [h0] at hz
      exact ⟨v, by simp [zeroValue, typeInfo, hi, h0], scsOf_sound hz⟩
theorem foldl_put (off : Nat) : ∀ (vs : List Value) (i : Nat) (cs : List Value), off + i + vs.length ≤ cs.length →
    ((vs.zipIdx i).foldl (fun (cs : Array Value) (x : Value × Nat) => cs.setIfInBounds (off + x.2) x.1) cs.toArray) = (cs.take (off + i) ++ vs ++ cs.drop (off + i + vs.length)).toArray
  | [], i, cs, hl => by simp
  | v :: vs, i, cs, hl => by
    simp only [List.length_cons] at hl
    simp only [List.zipIdx_cons, List.foldl_cons, List.setIfInBounds_toArray]
    rw [foldl_put off vs (i + 1) (cs.set (off + i) v) (by rw [List.length_set]; omega)]
    congr 1
    rw [show off + (i + 1) = off + i + 1 by omega]
    have e1 := take_set_succ cs (off + i) v (by omega)
    have e2 : (cs.set (off + i) v).drop (off + i + 1 + vs.length) = cs.drop (off + i + 1 + vs.length) := List.drop_set_of_lt (by omega)
    rw [e1, e2, List.length_cons, show off + i + (vs.length + 1) = off + i + 1 + vs.length by omega]
    simp
theorem fillA_cons (place : Nat → Option (Nat × Nat)) (cells : List SC) (x : Nat × V1) (r : List (Nat × V1)) : fillA place cells (x :: r) = (match place x.1 with
      | none => none
      | some p => (match Nat.beq (lenC x.2.cells) p.2 with
        | false => none
        | true => (match putC p.1 cells x.2.cells with
          | some cs => fillA place cs r
          | none => none))) := rfl
theorem fillA_sound {place : Nat → Option (Nat × Nat)} : ∀ {ps : List (Nat × V1)} {qs : List (Nat × Value)} {cells out : List SC} {vs : List Value}, fillA place cells ps = some out → All2 (PartR E) ps qs →
    All2 (SR E) cells vs → ∃ us, Instr.fill place vs.toArray qs = some us.toArray ∧ All2 (SR E) out us
  | [], _, cells, out, vs, hx, .nil, hc => by
    have : some cells = some out := hx
    cases this; exact ⟨vs, rfl, hc⟩
  | (i, v) :: r, _, cells, out, vs, hx, .cons (b := (i', val)) (bs := qs) ⟨hi, hv⟩ ht, hc => by
    simp only at hi hv
    subst hi
    rw [fillA_cons] at hx
    simp only at hx
    cases hp : place i with
    | none => simp [hp] at hx
    | some p =>
      obtain ⟨off, size⟩ := p
      simp only [hp] at hx
      cases hn : Nat.beq (lenC v.cells) size with
      | false => simp [hn] at hx
      | true =>
        simp only [hn] at hx
        have hn' := (nbeq_iff _ _).1 hn
        rw [lenC_eq] at hn'
        cases hq : putC off cells v.cells with
        | none => simp [hq] at hx
        | some cs =>
          simp only [hq] at hx
          obtain ⟨h1, h2⟩ := putC_eq _ _ _ _ hq
          have hvc := hv.cells
          have hl := hvc.length
          have hlc := hc.length
          have hA : All2 (SR E) cs (vs.take off ++ val.cells.toList ++ vs.drop (off + val.cells.toList.length)) := by
            rw [h1, ← hl]
            exact ((hc.take off).append hvc).append (hc.drop _)
          obtain ⟨us, e1, e2⟩ := fillA_sound hx ht hA
          refine ⟨us, ?_, e2⟩
          simp only [Instr.fill, hp]
          have hsz : val.cells.size = val.cells.toList.length := by simp
          have hc1 : (val.cells.size ≠ size || decide (off + val.cells.size > vs.toArray.size)) = false := by
            simp only [Bool.or_eq_false_iff, decide_eq_false_iff_not, List.size_toArray]
            exact ⟨by simp; omega, by omega⟩
          simp only [hc1, Bool.false_eq_true, if_false]
          have := foldl_put off val.cells.toList 0 vs (by omega)
          rw [← Array.foldl_toList, Array.toList_zipIdx]
          rw [show (fun (cs : Array Value) (x : Value × Nat) => match x with | (c, j) => cs.setIfInBounds (off + j) c) = (fun (cs : Array Value) (x : Value × Nat) => cs.setIfInBounds (off + x.2) x.1) from rfl, this, Nat.add_zero]
          exact e1
end Go.Proofs.YtnnilbambpfhiaaGreatDoor.Ev
