/-
  CompLoops answers true, at every count; the row.
-/
import Derived.Test.YtnnilbambpfhiaaGreatDoorEv38
import Derived.Test.YtnnilbambpfhiaaGreatDoorRows
import Derived.ProofKit
import Derived.LaidMore
import Derived.OpenShut
import Derived.Stop.Joined
namespace Go.Proofs.YtnnilbambpfhiaaGreatDoor.Ev
open Go

/-- The unknowns of a call with n. -/
def rho (n : Int) (v : Nat) : Int := match v with
  | 0 => (IntKind.u64.wrap n).tmod 1000
  | 1 => n
  | _ => IntKind.u64.wrap n
noncomputable def env3 (n : Int) : Env := ⟨fun i => if i < 5 then some (i, 0) else none, rho n⟩
theorem wrap_u64 (n : Int) : 0 ≤ IntKind.u64.wrap n ∧ IntKind.u64.wrap n ≤ 18446744073709551615 := by
  simp only [IntKind.wrap, IntKind.bits, IntKind.signed]
  constructor <;> simp <;> omega
theorem env3_ok (n : Int) (h1 : -9223372036854775808 ≤ n) (h2 : n ≤ 9223372036854775807) : EOk X3 (env3 n) := by
  have hw := wrap_u64 n
  refine ⟨fun v b hb => ?_, fun g hg => ⟨0, if_pos (show g < 5 from hg)⟩⟩
  match v with
  | 0 =>
    cases hb
    show 0 ≤ (IntKind.u64.wrap n).tmod 1000 ∧ (IntKind.u64.wrap n).tmod 1000 ≤ 999
    have e : (IntKind.u64.wrap n).tmod 1000 = (IntKind.u64.wrap n) % 1000 := Int.tmod_eq_emod_of_nonneg hw.1
    rw [e]
    omega
  | 1 => cases hb; exact ⟨h1, h2⟩
  | 2 => cases hb; exact hw
  | n + 3 => cases hb

/-- the table of spaces, as a list of numbers -/
noncomputable def spaces : List Int := (List.range 256).map fun i => if (9 ≤ i ∧ i ≤ 13) ∨ i = 32 then 1 else 0
def cellOf (n : Int) : SC := .int .u8 (.c n)
theorem spR_cells : spR.cells = spaces.map cellOf := by kernel_rfl

/-- THE CALL. -/
theorem compLoops_calls (n : Int) (h1 : -9223372036854775808 ≤ n) (h2 : n ≤ 9223372036854775807) (w : World) {cs : List Value} (hc : w.heap[0]? = some (.cells cs.toArray 162 (0, 0)))
    (hs : ∀ E, All2 (SR E) (spaces.map cellOf) cs) : Calls Tryz.prog 3 #[.int .i64 n] w fun e w' => e = .returned (.bool true) ∧ w'.os = w.os ∧ w'.output = w.output ∧ ∀ b, b < w.heap.size → w'.heap[b]? = w.heap[b]? := by
  have hrun := compLoops_runs
  cases hq : fnHk X3 (evalM X3 [comp, soloK] 200) fn3 hk3 path3 (argTmps 0 args3 .leaf) h3 5 with
  | bad => rw [hq] at hrun; cases hrun
  | val v h' c' =>
    rw [hq] at hrun
    have hv : v = .one (.sc (.bool true)) := by
      unfold isTrue at hrun
      split at hrun
      · rename_i e; cases e; rfl
      · cases hrun
    subst hv
    have hcases : ∀ id r, hget h3 id = some r → id = 0 ∧ r = spR := fun id r hi => by
      unfold h3 at hi
      by_cases e : id = 0
      · subst e; rw [hget_hset] at hi; exact ⟨rfl, (Option.some.inj hi).symm⟩
      · rw [hget_hset_ne _ _ e, hget_leaf] at hi; cases hi
    have hr : HR X3.P (env3 n) h3 w := by
      refine ⟨fun id r hi => ?_, fun id id' r r' b κ κ' hi hi' _ _ => (hcases id r hi).1.trans (hcases id' r' hi').1.symm⟩
      obtain ⟨rfl, rfl⟩ := hcases id r hi
      refine ⟨0, 0, by simp [env3], ⟨cs, [], (0, 0), by rw [List.append_nil]; exact hc, by rw [spR_cells]; exact hs _, fun _ => rfl, fun _ => rfl, fun h => by cases h⟩⟩
    have hfr : FR (env3 n) fn3.ntmps (argTmps 0 args3 .leaf) { tmps := [Value.int .i64 n].toArray ++ Array.replicate (fn3.ntmps - [Value.int .i64 n].toArray.size) undef, defers := [] } := by
      refine argTmps_FR (vs := [.int .i64 n]) (.cons ?_ .nil) (by rw [nt3]; decide)
      have := SR.int (E := env3 n) .i64 (.l 0 [(1, 1)])
      rw [denL, Int.zero_add] at this
      exact .sc this
    have hfresh : Fresh (env3 n) 5 c' := fun id ha _ => by simp only [env3]; rw [if_neg (by omega)]
    have hh : RunIf X3 fn3.ntmps Cnt hk3 (.region 1 ops3 false) := by rw [nt3]; exact hk3_ok
    refine Calls.mono (fnHk_ok (X := X3) hnum (evalM_ok (X := X3) hnum hmix known3 200) hmix get3 hh at3 hq (env3 n) w [.int .i64 n] ⟨rfl, rfl⟩ (env3_ok n h1 h2) hr hfr hfresh) ?_
    rintro e w' ⟨r, E', rfl, hv, g⟩
    cases hv with | one hv =>
    cases hv with | sc hv =>
    cases hv
    refine ⟨rfl, g.os, g.output, fun b hb => g.keep b hb fun id r κ hi hro _ => ?_⟩
    obtain ⟨_, rfl⟩ := hcases id r hi
    cases hro
theorem keptBut_of_same {w w' : World} {may : MemPlace → Prop} (h1 : w'.os = w.os) (h2 : w'.output = w.output) (h3 : ∀ b, b < w.heap.size → w'.heap[b]? = w.heap[b]?) : w.keptBut w' may := by
  refine ⟨h1, h2, fun i hi => ?_⟩
  rw [h3 i hi]
  cases w.heap[i]? with
  | none => trivial
  | some o => cases o <;> first | exact ⟨rfl, rfl, rfl, fun _ _ => rfl⟩ | exact .inr ⟨rfl, rfl⟩ | rfl
end Go.Proofs.YtnnilbambpfhiaaGreatDoor.Ev
