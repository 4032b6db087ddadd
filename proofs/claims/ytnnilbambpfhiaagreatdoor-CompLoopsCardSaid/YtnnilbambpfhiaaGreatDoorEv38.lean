/-
  CompLoops itself: its count, and its call.
-/
import Derived.Test.YtnnilbambpfhiaaGreatDoorEv37
namespace Go.Proofs.YtnnilbambpfhiaaGreatDoor.Ev
open Go
set_option maxRecDepth 100000

/-! The count: int(uint(n) % 1000). The unknown 1 is n, 2 is uint(n), 0 is the count. -/
def Cnt (ρ : Nat → Int) : Prop := ρ 2 = IntKind.u64.wrap (ρ 1) ∧ ρ 0 = (ρ 2).tmod 1000
def b3 : Bnds := [(0, 999), (-9223372036854775808, 9223372036854775807), (0, 18446744073709551615)]
noncomputable def X3 : Ctx := ⟨Tryz.prog, 5, b3⟩
def vI (k : IntKind) (v : Nat) : AV := .one (.sc (.int k (.l 0 [(v, 1)])))
noncomputable def cnt5 (t : Tmps) : Tmps := tset (tset (tset (tset (tset t 9 (vI .i64 1)) 10 (vI .u64 2)) 11 (vI .u64 0)) 12 (vI .i64 0)) 3 (vI .i64 0)
noncomputable def hk3 (t : Tmps) (h : Heap) (c : Nat) : R := match tget t 0 with
  | some v => (match avEq v (vI .i64 1) with | true => .ok .normal (cnt5 t) h c | false => .bad)
  | none => .bad
def path3 : List Bool := [false, true]
def opsIn : Option Code → Array Oper | some (.region _ ops _) => ops | _ => #[]
noncomputable def ops3 : Array Oper := opsIn (codeAt path3 (bodyOf Tryz.prog 3))
theorem at3 : codeAt path3 (bodyOf Tryz.prog 3) = some (.region 1 ops3 false) := by kernel_rfl
noncomputable def op3 (i : Nat) : Oper := ops3.getD i ⟨none, .move (.tmp 0), 0, "", #[], none⟩
theorem ops3_are : ops3 = #[op3 0, op3 1, op3 2, op3 3, op3 4] := by kernel_rfl
theorem op3_0 : (op3 0).op = .move (.tmp 0) := by kernel_rfl
theorem op3_1 : (op3 1).op = .convert 3 22 (.tmp 9) := by kernel_rfl
theorem op3_2 : (op3 2).op = .binOp .rem 22 (.tmp 10) (.const (.int .u64 1000)) 22 := by kernel_rfl
theorem op3_3 : (op3 3).op = .convert 22 3 (.tmp 11) := by kernel_rfl
theorem op3_4 : (op3 4).op = .assign (.tmp 12) := by kernel_rfl
theorem dst3_0 : (op3 0).dst = some 9 := by kernel_rfl
theorem dst3_1 : (op3 1).dst = some 10 := by kernel_rfl
theorem dst3_2 : (op3 2).dst = some 11 := by kernel_rfl
theorem dst3_3 : (op3 3).dst = some 12 := by kernel_rfl
theorem dst3_4 : (op3 4).dst = some 3 := by kernel_rfl
theorem g3_0 : (op3 0).guard = none := by kernel_rfl
theorem g3_1 : (op3 1).guard = none := by kernel_rfl
theorem g3_2 : (op3 2).guard = none := by kernel_rfl
theorem g3_3 : (op3 3).guard = none := by kernel_rfl
theorem g3_4 : (op3 4).guard = none := by kernel_rfl
theorem und3 : Tryz.prog.underlying 3 = some (.int .i64) := by kernel_rfl
theorem und22 : Tryz.prog.underlying 22 = some (.int .u64) := by kernel_rfl

/-- one operation of a region that yields a value and touches nothing -/
theorem opIs {P : Program} {E : Env} {nt : Nat} {t : Tmps} {a : Act} {w : World} (hfr : FR E nt t a) {ops : Array Oper} {i : Nat} {o : Oper} {d : Nat} {s : Sem Value} {r : Value} {v : AV} {Q : Go.Exit → Act → World → Prop} {K : Act → World → Prop}
    (ho : ops[i]? = some o) (hg : o.guard = none) (hd : o.dst = some d) (hlt : d < nt) (hs : execOp a.eval o = (do pure (.value (← s)))) (hr : s.run P w = .ok r w) (hv : AVR E v r)
    (hk : ∀ a', FR E nt (tset t d v) a' → K a' w) : wpOp P ops Q i K a w := by
  unfold wpOp
  rw [ho]
  simp only
  have hw : Region.wanted o (yielded ops a.tmps) = true := by simp [Region.wanted, hg]
  rw [if_pos hw]
  refine .inl ?_
  unfold Oper.wp
  rw [hs]
  simp only [Sem.run_bind, hr, Result.andThen_ok, Sem.run_pure, Oper.upon_value]
  rw [hd]
  refine hk _ (hfr.put (dst := some d) ?_ hv)
  simp only [putA, (blt_iff _ _).2 hlt]
theorem vI_get {E : Env} {nt : Nat} {t : Tmps} {a : Act} (hfr : FR E nt t a) {i v : Nat} {k : IntKind} (h : tget t i = some (vI k v)) : a.eval (.tmp i) = .int k (E.ρ v) := by
  have := hfr.tmp i _ h
  have e : a.eval (.tmp i) = a.tmps.getD i undef := rfl
  rw [e]
  generalize a.tmps.getD i undef = q at this
  cases this with | one this => cases this with | sc this =>
  cases this
  rw [denL]; simp
theorem vI_is {E : Env} {k : IntKind} {v : Nat} {n : Int} (h : n = E.ρ v) : AVR E (vI k v) (.int k n) := by
  have := SR.int (E := E) k (.l 0 [(v, 1)])
  rw [denL, Int.zero_add, ← h] at this
  exact .one (.sc this)
theorem hk3_ok : RunIf X3 45 Cnt hk3 (.region 1 ops3 false) := by
  intro t h c ex t' h' c' hx
  unfold hk3 at hx
  split at hx <;> first | (cases hx; done) | skip
  rename_i v0 ht0
  split at hx <;> cases hx
  rename_i heq
  rw [avEq_eq heq] at ht0
  refine ⟨Nat.le_refl _, fun E w a Q hφ he hr hfr hf hk => ?_⟩
  obtain ⟨hw, hc⟩ := hφ
  have h0 := he.inB 0 _ rfl
  simp only at h0
  have ho : ∀ i, i < 5 → ops3[i]? = some (op3 i) := by
    intro i hi
    rw [ops3_are]
    match i with
    | 0 => rfl
    | 1 => rfl
    | 2 => rfl
    | 3 => rfl
    | 4 => rfl
    | n + 5 => omega
  have hsz : ops3.size = 5 := by rw [ops3_are]; rfl
  refine wp_region ?_
  rw [hsz, show List.range 5 = [0, 1, 2, 3, 4] from rfl, wpOps_cons]
  refine opIs hfr (ho 0 (by omega)) g3_0 dst3_0 (by omega) (s := pure (a.eval (.tmp 0))) (by simp [execOp, op3_0]) rfl (v := vI .i64 1) (by rw [vI_get hfr ht0]; exact vI_is rfl) fun a1 hf1 => ?_
  rw [wpOps_cons]
  refine opIs hf1 (ho 1 (by omega)) g3_1 dst3_1 (by omega) (s := convert 3 22 (a1.eval (.tmp 9))) (r := .int .u64 (IntKind.u64.wrap (E.ρ 1))) (by simp [execOp, op3_1])
    (by rw [vI_get hf1 (tget_tset _ _ _)]; simp [X3, convert, run_underlying und3, run_underlying und22, Conv.intToInt]) (v := vI .u64 2) (vI_is hw.symm) fun a2 hf2 => ?_
  rw [wpOps_cons]
  refine opIs hf2 (ho 2 (by omega)) g3_2 dst3_2 (by omega) (s := do eqGuard .rem 22 (.tmp 10) (.const (.int .u64 1000)) (a2.eval (.tmp 10)) (a2.eval (.const (.int .u64 1000))); binOp .rem 22 (a2.eval (.tmp 10)) (a2.eval (.const (.int .u64 1000))))
    (r := .int .u64 ((E.ρ 2).tmod 1000)) (by simp [execOp, op3_2])
    (by rw [vI_get hf2 (tget_tset _ _ _), show a2.eval (.const (.int .u64 1000)) = .int .u64 1000 from rfl, Sem.run_bind, eqGuard_at_int]; simp [binOp, Op.intDiv]) (v := vI .u64 0) (vI_is hc.symm) fun a3 hf3 => ?_
  rw [wpOps_cons]
  refine opIs hf3 (ho 3 (by omega)) g3_3 dst3_3 (by omega) (s := convert 22 3 (a3.eval (.tmp 11))) (r := .int .i64 (E.ρ 0)) (by simp [execOp, op3_3])
    (by
      rw [vI_get hf3 (tget_tset _ _ _)]
      have : IntKind.i64.wrap (E.ρ 0) = E.ρ 0 := wrap_in .i64 _ (by simp only [kmin]; omega) (by simp only [kmax]; omega)
      simp [X3, convert, run_underlying und3, run_underlying und22, Conv.intToInt, this]) (v := vI .i64 0) (vI_is rfl) fun a4 hf4 => ?_
  rw [wpOps_cons]
  refine opIs hf4 (ho 4 (by omega)) g3_4 dst3_4 (by omega) (s := pure (a4.eval (.tmp 12))) (by simp [execOp, op3_4]) rfl (v := vI .i64 0) (by rw [vI_get hf4 (tget_tset _ _ _)]; exact vI_is rfl) fun a5 hf5 => ?_
  exact hk a5 w E hf5 (.refl hr)

/-! The call. -/
theorem has3 : (Tryz.prog.funcs[3]?).isSome = true := by kernel_rfl
noncomputable def fn3 : Func := (Tryz.prog.funcs[3]?).get has3
theorem get3 : Tryz.prog.funcs[3]? = some fn3 := (Option.some_get has3).symm
theorem nt3 : fn3.ntmps = 45 := by kernel_rfl
noncomputable def h3 : Heap := hset .leaf 0 (some spR)
def isTrue : OR → Bool | .val (.one (.sc (.bool true))) _ _ => true | _ => false
theorem known3 : Known [comp, soloK] := .cons comp_ok (.cons soloK_ok .nil)
noncomputable def args3 : List V1 := [.sc (.int .i64 (.l 0 [(1, 1)]))]
theorem compLoops_runs : isTrue (fnHk X3 (evalM X3 [comp, soloK] 200) fn3 hk3 path3 (argTmps 0 args3 .leaf) h3 5) = true := by kernel_rfl
end Go.Proofs.YtnnilbambpfhiaaGreatDoor.Ev
