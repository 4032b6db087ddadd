/-
  The row: CompLoops returns true, whatever the input.
-/
import Derived.Test.YtnnilbambpfhiaaGreatDoorEv39
namespace Go.Proofs.YtnnilbambpfhiaaGreatDoor
open Go Go.ChangeShapes Go.WideShapes Go.ChangeAt Go.WideMaps Go.WideElems Go.RowKit
open Ev (spaces cellOf All2 SR)

theorem own : ownKnob Tryz.prog.godebug = none := by kernel_rfl
theorem gWhite : Tryz.prog.globalNamed "unicode.White_Space" = some 1 := by kernel_rfl
theorem gSpace : Tryz.prog.globalNamed "strings.asciiSpace" = some 0 := by kernel_rfl
theorem tSpace : (Tryz.prog.globals[0]?).map (·.type) = some 162 := by kernel_rfl
theorem c5 : Tryz.prog.cellsOf 5 = 1 := by kernel_rfl
theorem c162 : Tryz.prog.cellsOf 162 = 256 := by kernel_rfl
theorem u5 : Tryz.prog.underlying 5 = some (.int .u8) := by kernel_rfl
def laid2 : List (String × DataW Unit) := [("unicode.White_Space", Rows.laid_unicode_White_Space), ("strings.asciiSpace", Rows.laid_strings_asciiSpace)]
def litOf (n : Int) : DataW Unit := .lit (.int .u8 n)
theorem laid_spaces : Rows.laid_strings_asciiSpace = DataW.agg (spaces.map litOf) := by kernel_rfl
theorem spaces_length : spaces.length = 256 := by kernel_rfl

/-- The door's own heap meets the condition. -/
theorem door_met (os : Os) (args : Array Value) : laidMetH Tryz.prog laid2 ((World.doorLaid Tryz.prog 400 os).forCall (fun _ _ => 0) ⟨#[], args, []⟩).memory :=
  laidMetH_of_parts3 (fuel := 8) (laidMet_of_run' 8 (by kernel_rfl) (by kernel_rfl)) (by kernel_rfl) (by kernel_rfl)

theorem cells_are {W : World} {m : Nat} : ∀ (l : List Int) (cs : List Value) (xs : List (DataW Unit × List MemPlace)), xs.map (·.1) = l.map litOf → cs.length = l.length →
    (∀ i, i < l.length → DataW.trod (fun _ => ()) Tryz.prog W 0 (fun _ => true) false m 5 ((cs.drop i).take 1) = xs[i]?) → ∀ E, All2 (SR E) (l.map cellOf) cs
  | [], cs, xs, _, hl, _, E => by
    cases cs with
    | nil => exact .nil
    | cons c r => simp at hl
  | n :: l, cs, xs, hx, hl, ht, E => by
    cases cs with
    | nil => simp at hl
    | cons c r =>
      cases xs with
      | nil => simp at hx
      | cons x xs =>
        simp only [List.map_cons, List.cons.injEq] at hx
        have h0 := ht 0 (by simp)
        simp only [List.drop_zero, List.take_succ_cons, List.take_zero, List.getElem?_cons_zero] at h0
        obtain ⟨k, e1, e2, _⟩ := DataW.trod_int u5 h0
        simp only [List.cons.injEq, and_true] at e1
        subst e1
        rw [e2] at hx
        have hk : k = n := by
          have := hx.1
          simp only [litOf, DataW.lit.injEq, Lit.int.injEq, true_and] at this
          exact this
        subst hk
        refine .cons (.int .u8 (.c k)) (cells_are (W := W) (m := m) l r xs hx.2 (by simpa using hl) (fun i hi => ?_) E)
        have := ht (i + 1) (by simpa using hi)
        simpa using this

/-- WHAT THE CONDITION GIVES: the table of spaces. -/
theorem of_laid {W : World} (h : laidMetH Tryz.prog laid2 W) : ∃ cs, W.var? Tryz.prog "strings.asciiSpace" = some cs ∧ ∀ E, All2 (SR E) (spaces.map cellOf) cs.toList := by
  rw [MakeChecks.laidMetH_plain _ _ _ (by kernel_rfl)] at h
  obtain ⟨ps, ⟨g0, t0, cs0, f0, p0, q0, hg0, ht0, hv0, hd0, ⟨g1, t1, cs1, f1, p1, q1, hg1, ht1, hv1, hd1, _, _⟩, _⟩, _, _⟩ := h
  obtain rfl := Option.some.inj (gSpace.symm.trans hg1)
  obtain rfl := Option.some.inj (tSpace.symm.trans ht1)
  refine ⟨cs1, hv1, ?_⟩
  obtain ⟨xs, m, _, hx, hl, hn, hel⟩ := DataW.trod_array Tryz.underlying162 hd1
  rw [laid_spaces] at hx
  simp only [Prod.mk.injEq, DataW.agg.injEq] at hx
  refine cells_are (W := W) (m := m) spaces cs1.toList xs hx.1.symm (by rw [hl, c162, spaces_length]) fun i hi => ?_
  have := hel i (by rw [spaces_length] at hi; exact hi)
  rw [c5, Nat.mul_one] at this
  exact this
theorem heap_of_var {W : World} {cs : Array Value} (h : W.var? Tryz.prog "strings.asciiSpace" = some cs) : ∃ t fr, W.heap[0]? = some (.cells cs t fr) := by
  simp only [World.var?, gSpace, Option.bind_some] at h
  split at h <;> first | (cases h; done) | skip
  rename_i c t fr h1
  cases h
  exact ⟨t, fr, h1⟩
theorem row0 : (((begin Tryz.prog (fun _ _ => 0) default).world.heap[0]?).bind Obj.row?).map (·.2) = some 162 := by kernel_rfl
theorem globals0 : 0 < Tryz.prog.globals.size := of_decide_eq_true (by kernel_rfl)
theorem type_of_shape {W : World} (h : W.ShapedOpen Tryz.prog) : ∃ cs, W.heap[0]? = some (.cells cs 162) := by
  have h0 := row0
  cases hq : ((begin Tryz.prog (fun _ _ => 0) default).world.heap[0]?).bind Obj.row? with
  | none => rw [hq] at h0; cases h0
  | some x =>
    obtain ⟨z, t⟩ := x
    rw [hq] at h0
    simp only [Option.map_some, Option.some.injEq] at h0
    subst h0
    obtain ⟨cs, h1, _⟩ := h.1 0 z _ globals0 hq
    exact ⟨cs, h1⟩

set_option maxRecDepth 100000 in
theorem lifted (os : Os) (started : os.Started) (H : Type) (enc : TypeId × Value → H) :
    ReturnsInHanded {} Tryz.checked os 3 .any (fun w args => (Rows.compLoopsSpec.pre enc Tryz.prog Tryz.f3 [] false w args ∧ laidMetH Tryz.prog laid2 w) ∧ sizedMet enc Tryz.prog Tryz.f3 (OpenSpec.ofChange Rows.compLoopsSpec) false w args)
      (Rows.compLoopsSpec.post enc Tryz.prog Tryz.f3 false true false false) := by
  refine returnsInHanded_of_calls (C := Tryz.checked) own started (by kernel_rfl)
    (ChangeSpec.witness_shaped (enc := enc) (C := Tryz.checked) (os := os) (X := fun w _ => laidMetH Tryz.prog laid2 w) false (World.doorLaid Tryz.prog 400 os) #[.int .i64 0] 8 rfl (World.shaped_of_RefB (by kernel_rfl) (by kernel_rfl)) (by kernel_rfl) (by kernel_rfl) (by kernel_rfl) (door_met os _)) ?_
  intro w tape i _ hshape _ hok hpre _
  obtain ⟨_, _, _, fn, hfn, _, _, _, _, hval0⟩ := hok
  obtain rfl : fn = Tryz.f3 := Option.some.inj (hfn.symm.trans Tryz.func3)
  obtain ⟨⟨⟨ds, gs, before, hw, _⟩, hL⟩, _⟩ := hpre
  have hW : DataW.Whole enc Tryz.prog Tryz.f3.params.toList Rows.compLoopsSpec.vars false (w.forCall tape i) i.args.toList ds gs before := DataW.Whole.of_heap (w' := w.forCall tape i) (by rfl) hw
  have hL' : laidMetH Tryz.prog laid2 (w.forCall tape i) := laidMetH.of_heap (by rfl) hL
  obtain ⟨cs, hv, hs⟩ := of_laid hL'
  obtain ⟨t, fr, hc⟩ := heap_of_var hv
  obtain ⟨cs', hc'⟩ := type_of_shape hshape
  have hcell := hc.symm.trans hc'
  simp only [Option.some.injEq, Obj.cells.injEq] at hcell
  obtain ⟨_, rfl, rfl⟩ := hcell
  have hval : ∀ (j : Nat) t v, Tryz.f3.params[j]? = some t → i.args[j]? = some v → Value.okWide Tryz.prog (w.forCall tape i) .any w.heap.size t v := hval0
  suffices hmain : Calls Tryz.prog 3 i.args (w.forCall tape i) fun e W' => ∃ v, e = .returned v ∧ Rows.compLoopsSpec.post enc Tryz.prog Tryz.f3 false true false false (w.forCall tape i) i.args v W' from
    hmain.mono fun e W' ⟨v, he, hp⟩ => by subst he; exact ChangeSpec.post_blind hp
  generalize w.forCall tape i = W at hW hL' hc hval hs hv
  generalize i.args = args at hW hval
  have hW' := hW
  obtain ⟨p, q, hA0, hV0, rfl, hfz, hnd⟩ := hW
  have hA : DataW.TrodAll enc Tryz.prog W 0 (fun _ => true) true Tryz.f3.params.toList args.toList ds p := hA0
  have hV : DataW.TrodVars enc Tryz.prog W (fun _ => true) [] gs q := hV0
  rw [Tryz.params3] at hA hval
  obtain ⟨v0, d0, rfl, rfl, h0⟩ := trodAll_one hA
  obtain ⟨n, rfl, rfl, rfl, hwn⟩ := open_int Tryz.underlying3 (hval 0 3 v0 rfl rfl) h0
  obtain ⟨rfl, rfl⟩ : gs = [] ∧ q = [] := by
    cases gs with
    | nil => exact ⟨rfl, hV⟩
    | cons g r => exact absurd hV (by intro h; cases h)
  have hr : IntKind.i64.min ≤ n ∧ n ≤ IntKind.i64.max := by simpa [Lit.wf] using hwn
  have e1 : Rows.compLoopsSpec.fn H ([.lit (.int .i64 n)] ++ []) = { results := [.lit (.bool true)], args := [.lit (.int .i64 n)] } := by simp [Rows.compLoopsSpec]
  refine (Ev.compLoops_calls n hr.1 hr.2 W (cs := cs.toList) (by simpa using hc) hs).mono fun e W' ⟨he, h1, h2, h3⟩ => ?_
  subst he
  refine ⟨_, rfl, _, _, _, [], [], [], hW', ?_, ?_, ?_, Ev.keptBut_of_same h1 h2 h3, fun h => by cases h⟩
  · rw [e1]; exact trodAll_mk1 (shut_bool Tryz.underlying4 true)
  · rw [e1]; exact trodAll_mk1 (shut_int Tryz.underlying3 hwn)
  · rw [e1]; rfl

theorem compLoops_holds : Rows.CompLoopsSaid :=
  OpenClaim.holds_of_wide 3 Tryz.f3 rfl rfl rfl rfl rfl rfl rfl ⟨rfl, rfl, rfl, rfl, rfl⟩ rfl rfl rfl rfl rfl (by kernel_rfl) Tryz.func3 (by kernel_rfl)
    (of_decide_eq_true (by kernel_rfl)) (by unfold Func.isWrapper; rw [if_neg (by decide +kernel)]; exact ⟨rfl, rfl⟩)
    (fun os started H enc _ => lifted os started H enc)
end Go.Proofs.YtnnilbambpfhiaaGreatDoor
