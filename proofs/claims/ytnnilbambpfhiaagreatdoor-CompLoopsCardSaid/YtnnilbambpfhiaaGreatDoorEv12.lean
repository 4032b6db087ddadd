/-
  All operations answer as the model's do: the builtins, the calls.
-/
import Derived.Test.YtnnilbambpfhiaaGreatDoorEv11
namespace Go.Proofs.YtnnilbambpfhiaaGreatDoor.Ev
open Go
variable {E : Env} {w : World} {h : Heap}

theorem lenA_sound {X : Ctx} {t ty : TypeId} {x : V1} {n : Nat} (hx : lenA X t x = some n) {v : Value} (hv : V1R E x v) (w : World) : (Builtin.len_ #[t] ty #[v]).run X.P w = .ok (.int .i64 n) w := by
  unfold lenA at hx
  split at hx <;> cases hx
  · rename_i s hu
    cases hv with | sc hv =>
    cases hv
    have : (ByteArray.mk s.toArray).size = s.length := rfl
    simp [Builtin.len_, run_underlying hu, goInt, lenS_eq, this]
  · rename_i hu
    simp [Builtin.len_, run_underlying hu, goInt]
  · rename_i hu
    cases hv with | sc hv =>
    cases hv
    simp [Builtin.len_, run_underlying hu, goInt]
  · rename_i hu
    cases hv with | sc hv =>
    cases hv
    simp [Builtin.len_, run_underlying hu, goInt]
theorem mxA_sound {B : Bnds} (hB : InB B E.ρ) {mx : Bool} {x y s : SC} (hx : mxA B mx x y = some s) {u v : Value} (hu : SR E x u) (hv : SR E y v) (P : Program) (ts : Array TypeId) (ty : TypeId) (w : World) :
    ∃ r, ((if mx then Builtin.max_ else Builtin.min_) ts ty #[u, v]).run P w = .ok r w ∧ SR E s r := by
  unfold mxA at hx
  split at hx <;> first | (cases hx; done) | skip
  split at hx <;> first | (cases hx; done) | skip
  rename_i hk
  subst hk
  cases hu; cases hv
  split at hx
  · split at hx <;> cases hx
    · rename_i h1
      have := ltL_sound hB _ _ h1
      have := of_decide_eq_true this.symm
      refine ⟨_, ?_, .int _ _⟩
      simp only [if_true, Builtin.max_, List.foldlM_cons, List.foldlM_nil, Builtin.max2, Sem.run_bind, Sem.run_pure, Result.andThen_ok]
      rw [if_pos this]
    · rename_i h1
      have := ltL_sound hB _ _ h1
      have := of_decide_eq_false this.symm
      refine ⟨_, ?_, .int _ _⟩
      simp only [if_true, Builtin.max_, List.foldlM_cons, List.foldlM_nil, Builtin.max2, Sem.run_bind, Sem.run_pure, Result.andThen_ok]
      rw [if_neg this]
  · split at hx <;> cases hx
    · rename_i h1
      have := ltL_sound hB _ _ h1
      have := of_decide_eq_true this.symm
      refine ⟨_, ?_, .int _ _⟩
      simp only [Bool.false_eq_true, if_false, Builtin.min_, List.foldlM_cons, List.foldlM_nil, Builtin.min2, Sem.run_bind, Sem.run_pure, Result.andThen_ok]
      rw [if_pos this]
    · rename_i h1
      have := ltL_sound hB _ _ h1
      have := of_decide_eq_false this.symm
      refine ⟨_, ?_, .int _ _⟩
      simp only [Bool.false_eq_true, if_false, Builtin.min_, List.foldlM_cons, List.foldlM_nil, Builtin.min2, Sem.run_bind, Sem.run_pure, Result.andThen_ok]
      rw [if_neg this]
theorem all2_one {α β : Type} {R : α → β → Prop} {a : α} {m : List β} (h : All2 R [a] m) : ∃ b, m = [b] ∧ R a b := by
  cases h with | cons h t => cases t; exact ⟨_, rfl, h⟩
theorem all2_two {α β : Type} {R : α → β → Prop} {a b : α} {m : List β} (h : All2 R [a, b] m) : ∃ c d, m = [c, d] ∧ R a c ∧ R b d := by
  cases h with | cons h t => cases t with | cons h' t' => cases t'; exact ⟨_, _, rfl, h, h'⟩
/-- what a call of a builtin comes to -/
theorem builtinA_sound {X : Ctx} (he : EOk X E) (hr : HR X.P E h w) {b : Builtin} {tys : List TypeId} {args : List V1} {c : Nat} {v : AV} {h' : Heap} {c' : Nat} (hx : builtinA X b tys args h c = .val v h' c') (hf : Fresh E c c')
    {vs : List Value} (hv : All2 (V1R E) args vs) (ty : TypeId) (cs : Array Bool) :
    ∃ r w' E', (builtin b tys.toArray ty cs vs.toArray).run X.P w = .ok (.value r) w' ∧ AVR E' v r ∧ Goes X.P E w h c E' w' h' c' := by
  unfold builtinA at hx
  split at hx <;> first | (cases hx; done) | skip
  · rename_i t tr x xr
    cases hv with | cons hv1 hv2 =>
    rename_i u us
    cases hl : lenA X t x with
    | none => rw [hl] at hx; cases hx
    | some n =>
      rw [hl] at hx
      simp only [okS, OR.val.injEq] at hx
      obtain ⟨rfl, rfl, rfl⟩ := hx
      have hrun : (Builtin.len_ (t :: tr).toArray ty (u :: us).toArray).run X.P w = .ok (.int .i64 n) w := by
        have := lenA_sound (ty := ty) hl hv1 w
        simpa [Builtin.len_] using this
      exact ⟨.int .i64 n, w, E, by simp only [builtin, Sem.run_bind, hrun, Result.andThen_ok, Sem.run_pure], .one (.sc (.int .i64 (.c n))), .refl hr⟩
  · rename_i t u s x
    obtain ⟨sv, xv, rfl, hs, hxv⟩ := all2_two hv
    cases hs with | sc hs => cases hxv with | sc hxv =>
    have hap : appendA X t s x h c = .val v h' c' ∧ SlOrStr X.P u := by
      split at hx <;> first | (cases hx; done) | skip
      · rename_i e hu; exact ⟨hx, .inl ⟨e, hu⟩⟩
      · rename_i hu; exact ⟨hx, .inr hu⟩
    obtain ⟨r, w', E', h1, h2, h3⟩ := appendA_sound (ty := ty) hr hap.2 hap.1 hf hs hxv
    exact ⟨r, w', E', by simp only [builtin, Sem.run_bind, h1, Result.andThen_ok, Sem.run_pure], h2, h3⟩
  · rename_i x y
    obtain ⟨sv, xv, rfl, hs, hxv⟩ := all2_two hv
    cases hs with | sc hs => cases hxv with | sc hxv =>
    cases hm : mxA X.B true x y with
    | none => rw [hm] at hx; cases hx
    | some s =>
      rw [hm] at hx
      simp only [okS, OR.val.injEq] at hx
      obtain ⟨rfl, rfl, rfl⟩ := hx
      obtain ⟨r, h1, h2⟩ := mxA_sound he.inB hm hs hxv X.P tys.toArray ty w
      simp only [if_true] at h1
      exact ⟨r, w, E, by simp only [builtin, Sem.run_bind, h1, Result.andThen_ok, Sem.run_pure], .one (.sc h2), .refl hr⟩
  · rename_i x y
    obtain ⟨sv, xv, rfl, hs, hxv⟩ := all2_two hv
    cases hs with | sc hs => cases hxv with | sc hxv =>
    cases hm : mxA X.B false x y with
    | none => rw [hm] at hx; cases hx
    | some s =>
      rw [hm] at hx
      simp only [okS, OR.val.injEq] at hx
      obtain ⟨rfl, rfl, rfl⟩ := hx
      obtain ⟨r, h1, h2⟩ := mxA_sound he.inB hm hs hxv X.P tys.toArray ty w
      simp only [Bool.false_eq_true, if_false] at h1
      exact ⟨r, w, E, by simp only [builtin, Sem.run_bind, h1, Result.andThen_ok, Sem.run_pure], .one (.sc h2), .refl hr⟩
  · obtain ⟨sv, rfl, hs⟩ := all2_one hv
    cases hs with | sc hs =>
    cases hs
    simp only [okS, OR.val.injEq] at hx
    obtain ⟨rfl, rfl, rfl⟩ := hx
    exact ⟨_, w, E, rfl, .one (.sc (.float _ _)), .refl hr⟩
  · obtain ⟨sv, rfl, hs⟩ := all2_one hv
    cases hs with | sc hs =>
    cases hs
    simp only [okS, OR.val.injEq] at hx
    obtain ⟨rfl, rfl, rfl⟩ := hx
    exact ⟨_, w, E, rfl, .one (.sc (.float _ _)), .refl hr⟩

/-- No function of the program is the runtime's NumGoroutine. -/
def NoNum (P : Program) : Prop := ∀ (f : Nat) (fn : Func), P.funcs[f]? = some fn → (fn.name == "runtime.NumGoroutine") = false
/-- A way to answer calls is right. -/
def CallOk (X : Ctx) (callF : CallF) : Prop := ∀ f args h c v h' c', callF f args h c = .val v h' c' →
  (∃ fn, X.P.funcs[f]? = some fn ∧ fn.body.isSome = true) ∧
  ∀ E w vs, EOk X E → HR X.P E h w → All2 (V1R E) args vs → Fresh E c c' →
    Calls X.P f vs.toArray w fun e w' => ∃ r E', e = .returned r ∧ AVR E' v r ∧ Goes X.P E w h c E' w' h' c'

theorem opA_wp {X : Ctx} {callF : CallF} (hnum : NoNum X.P) (hcall : CallOk X callF) (he : EOk X E) (hr : HR X.P E h w) {nt : Nat} {t : Tmps} {a : Act} (hfr : FR E nt t a) {o : Oper} {c : Nat} {v : AV} {h' : Heap} {c' : Nat}
    (hx : opA X callF o.op t h c = .val v h' c') (hf : Fresh E c c') (next : Act → World → Prop) (Q : Go.Exit → Act → World → Prop)
    (hk : ∀ r w' E', AVR E' v r → Goes X.P E w h c E' w' h' c' → next (a.put o.dst r) w') : o.wp X.P a w next Q := by
  have value : ∀ {s : Sem Value} {r : Value} {w' : World} {E' : Env}, execOp a.eval o = (do pure (.value (← s))) → s.run X.P w = .ok r w' → AVR E' v r → Goes X.P E w h c E' w' h' c' → o.wp X.P a w next Q := by
    intro s r w' E' h1 h2 h3 h4
    unfold Oper.wp
    rw [h1]
    simp only [Sem.run_bind, h2, Result.andThen_ok, Sem.run_pure, Oper.upon_value]
    exact hk r w' E' h3 h4
  have plain : ∀ {s : Sem Value} {r : Value}, execOp a.eval o = (do pure (.value (← s))) → s.run X.P w = .ok r w → AVR E v r → h' = h → c' = c → o.wp X.P a w next Q := by
    intro s r h1 h2 h3 h4 h5
    subst h4; subst h5
    exact value h1 h2 h3 (.refl hr)
  cases hop : o.op with
  | move x =>
    rw [hop] at hx
    simp only [opA] at hx
    cases h1 : opd X.G x t with
    | none => rw [h1] at hx; cases hx
    | some y =>
      rw [h1] at hx
      simp only [okV, OR.val.injEq] at hx
      obtain ⟨rfl, rfl, rfl⟩ := hx
      have := opd_sound he hfr h1
      exact plain (s := pure (a.eval x)) (r := a.eval x) (by simp [execOp, hop]) rfl this rfl rfl
  | assign x =>
    rw [hop] at hx
    simp only [opA] at hx
    cases h1 : opd X.G x t with
    | none => rw [h1] at hx; cases hx
    | some y =>
      rw [h1] at hx
      simp only [okV, OR.val.injEq] at hx
      obtain ⟨rfl, rfl, rfl⟩ := hx
      have := opd_sound he hfr h1
      exact plain (s := pure (a.eval x)) (r := a.eval x) (by simp [execOp, hop]) rfl this rfl rfl
  | pick x y z =>
    rw [hop] at hx
    simp only [opA] at hx
    split at hx <;> first | (cases hx; done) | skip
    · rename_i h1
      have hb := opdS_sound he hfr h1
      cases h2 : opd X.G y t with
      | none => rw [h2] at hx; cases hx
      | some u =>
        rw [h2] at hx
        simp only [okV, OR.val.injEq] at hx
        obtain ⟨rfl, rfl, rfl⟩ := hx
        have hs := opd_sound he hfr h2
        generalize hq : a.eval x = q at hb
        cases hb
        refine plain (s := do pure (if ← asBool (a.eval x) then a.eval y else a.eval z)) (r := a.eval y) (by simp [execOp, hop]) (by rw [hq]; simp [asBool]) hs rfl rfl
    · rename_i h1
      have hb := opdS_sound he hfr h1
      cases h2 : opd X.G z t with
      | none => rw [h2] at hx; cases hx
      | some u =>
        rw [h2] at hx
        simp only [okV, OR.val.injEq] at hx
        obtain ⟨rfl, rfl, rfl⟩ := hx
        have hs := opd_sound he hfr h2
        generalize hq : a.eval x = q at hb
        cases hb
        refine plain (s := do pure (if ← asBool (a.eval x) then a.eval y else a.eval z)) (r := a.eval z) (by simp [execOp, hop]) (by rw [hq]; simp [asBool]) hs rfl rfl
  | alloc e =>
    rw [hop] at hx
    simp only [opA] at hx
    cases h1 : zeroOf X.P e with
    | none => rw [h1] at hx; cases hx
    | some z =>
      rw [h1] at hx
      simp only at hx
      obtain ⟨zv, hz1, hz2⟩ := zeroOf_sound (E := E) h1 w
      obtain ⟨rfl, hg, hs⟩ := allocRow_sound hr hz2 hx hf
      refine value (s := Instr.alloc e true (.tuple #[])) (r := .pointer (some ⟨w.heap.size, 0, none⟩)) (by simp [execOp, hop]) ?_ (.one (.sc (.ptr hs))) hg
      simp [Instr.alloc, hz1, newVar, newRow]
  | box e x =>
    rw [hop] at hx
    simp only [opA] at hx
    cases h1 : opd1 X.G x t with
    | none => rw [h1] at hx; cases hx
    | some u =>
      rw [h1] at hx
      simp only at hx
      have hu := (opd1_sound he hfr h1).cells
      obtain ⟨rfl, hg, hs⟩ := allocRow_sound hr hu hx hf
      refine value (s := Instr.box e (a.eval x)) (r := .pointer (some ⟨w.heap.size, 0, none⟩)) (by simp [execOp, hop]) ?_ (.one (.sc (.ptr hs))) hg
      simp [Instr.box, newVar, newRow]
  | build ty ps =>
    rw [hop] at hx
    simp only [opA] at hx
    cases h1 : parts1 X.G t ps.toList with
    | none => rw [h1] at hx; cases hx
    | some l =>
      rw [h1] at hx
      simp only at hx
      have hl := parts1_sound he hfr h1
      cases h2 : buildA X.P ty l with
      | none => rw [h2] at hx; cases hx
      | some u =>
        rw [h2] at hx
        simp only [of1, okV, OR.val.injEq] at hx
        obtain ⟨rfl, rfl, rfl⟩ := hx
        obtain ⟨r, hrun, hrel⟩ := buildA_sound h2 hl w
        refine plain (s := Instr.build ty (ps.map fun (i, x) => (i, a.eval x))) (r := r) (by simp [execOp, hop]) ?_ (.one hrel) rfl rfl
        have : (ps.map fun (i, x) => (i, a.eval x)) = (ps.toList.map fun x => (x.1, a.eval x.2)).toArray := by
          apply Array.ext'; simp
        rw [this]; exact hrun
  | buildSlice ty n ps =>
    rw [hop] at hx
    simp only [opA] at hx
    cases h1 : parts1 X.G t ps.toList with
    | none => rw [h1] at hx; cases hx
    | some l =>
      rw [h1] at hx
      simp only at hx
      have hl := parts1_sound he hfr h1
      cases h2 : buildSliceA X.P ty n l with
      | none => rw [h2] at hx; cases hx
      | some p =>
        obtain ⟨e, cs⟩ := p
        rw [h2] at hx
        simp only at hx
        obtain ⟨us, hrun, hrel⟩ := buildSliceA_sound h2 hl w
        obtain ⟨rfl, hg, hs⟩ := allocRow_sound hr hrel hx hf
        have : (ps.map fun (i, x) => (i, a.eval x)) = (ps.toList.map fun x => (x.1, a.eval x.2)).toArray := by
          apply Array.ext'; simp
        refine value (s := Instr.buildSlice ty n (ps.map fun (i, x) => (i, a.eval x))) (r := .slice (some ⟨w.heap.size, 0, none⟩) n n) (by simp [execOp, hop]) (by rw [this]; exact hrun) ?_ hg
        exact .one (.sc (SR.slice (c := .exact n) hs))
  | load ty x =>
    rw [hop] at hx
    simp only [opA] at hx
    split at hx <;> first | (cases hx; done) | skip
    rename_i g n id off h1 h2
    cases h3 : loadA g n id off h with
    | none => rw [h3] at hx; cases hx
    | some u =>
      rw [h3] at hx
      simp only [of1, okV, OR.val.injEq] at hx
      obtain ⟨rfl, rfl, rfl⟩ := hx
      obtain ⟨r, hrun, hrel⟩ := loadA_sound hr h1 h3 (opdS_sound he hfr h2)
      exact plain (s := Instr.loadAt ty (a.eval x)) (r := r) (by simp [execOp, hop]) hrun (.one hrel) rfl rfl
  | store ty x y =>
    rw [hop] at hx
    simp only [opA] at hx
    split at hx <;> first | (cases hx; done) | skip
    rename_i n id off u h1 h2 h3
    cases h4 : storeA n id off u.cells h with
    | none => rw [h4] at hx; cases hx
    | some h1' =>
      rw [h4] at hx
      simp only [okV, OR.val.injEq] at hx
      obtain ⟨rfl, rfl, rfl⟩ := hx
      obtain ⟨w', hrun, hg⟩ := storeA_sound hr h1 h4 (opdS_sound he hfr h2) (opd1_sound he hfr h3).cells c
      unfold Oper.wp
      simp only [execOp, hop, Sem.run_bind, hrun, Result.andThen_ok, Sem.run_pure, Oper.upon_skip]
      exact hk _ _ _ (AVR.undef E) hg
  | nilCheck x =>
    rw [hop] at hx
    simp only [opA] at hx
    split at hx <;> first | (cases hx; done) | skip
    · rename_i id off h1
      simp only [okS, OR.val.injEq] at hx
      obtain ⟨rfl, rfl, rfl⟩ := hx
      have hb := opdS_sound he hfr h1
      generalize hq : a.eval x = q at hb
      cases hb with
      | ptr hσ =>
        unfold Oper.wp
        simp only [execOp, hop, hq, Sem.run_pure, Oper.upon_value]
        exact hk _ _ _ (.one (.sc (.ptr hσ))) (.refl hr)
    · rename_i f l h1
      simp only [okS, OR.val.injEq] at hx
      obtain ⟨rfl, rfl, rfl⟩ := hx
      have hb := opdS_sound he hfr h1
      generalize hq : a.eval x = q at hb
      cases hb with
      | func hσ =>
        unfold Oper.wp
        simp only [execOp, hop, hq, Sem.run_pure, Oper.upon_value]
        exact hk _ _ _ (.one (.sc (.func hσ))) (.refl hr)
  | binOp op ty x y ty2 =>
    rw [hop] at hx
    simp only [opA] at hx
    split at hx <;> first | (cases hx; done) | skip
    rename_i u u' h1 h2
    cases h3 : binOpA X op ty u u' with
    | none => rw [h3] at hx; cases hx
    | some s =>
      rw [h3] at hx
      simp only [ofS, okS, OR.val.injEq] at hx
      obtain ⟨rfl, rfl, rfl⟩ := hx
      obtain ⟨r, hrun, hrel⟩ := binOpA_sound he h3 (opd1_sound he hfr h1) (opd1_sound he hfr h2) x y w
      exact plain (s := do eqGuard op ty x y (a.eval x) (a.eval y); binOp op ty (a.eval x) (a.eval y)) (r := r) (by simp [execOp, hop]) hrun (.one (.sc hrel)) rfl rfl
  | unOp op ty x =>
    rw [hop] at hx
    simp only [opA] at hx
    cases h1 : opdS X.G x t with
    | none => rw [h1] at hx; cases hx
    | some u =>
      rw [h1] at hx
      simp only at hx
      cases h3 : unOpA X.B op u with
      | none => rw [h3] at hx; cases hx
      | some s =>
        rw [h3] at hx
        simp only [ofS, okS, OR.val.injEq] at hx
        obtain ⟨rfl, rfl, rfl⟩ := hx
        obtain ⟨r, hrun, hrel⟩ := unOpA_sound he.inB h3 (opdS_sound he hfr h1) w (P := X.P)
        exact plain (s := Op.unary op (a.eval x)) (r := r) (by simp [execOp, hop]) hrun (.one (.sc hrel)) rfl rfl
  | convert src d x =>
    rw [hop] at hx
    simp only [opA] at hx
    split at hx <;> first | (cases hx; done) | skip
    · rename_i d1 k k' n hu1 hu h1
      have hb := opdS_sound he hfr h1
      cases hw : wrapL X.B k n with
      | none => rw [hw] at hx; cases hx
      | some m =>
        rw [hw] at hx
        simp only [okS, OR.val.injEq] at hx
        obtain ⟨rfl, rfl, rfl⟩ := hx
        generalize hq : a.eval x = q at hb
        cases hb
        have hm := wrapL_sound he.inB k n m hw
        refine plain (s := convert src d (a.eval x)) (r := .int k (m.den E.ρ)) (by simp [execOp, hop]) ?_ (.one (.sc (.int k m))) rfl rfl
        rw [hq, hm]
        simp [convert, run_underlying hu1, run_underlying hu, Conv.intToInt]
    · rename_i d1 s hu1 hu h1
      have hb := opdS_sound he hfr h1
      simp only [okS, OR.val.injEq] at hx
      obtain ⟨rfl, rfl, rfl⟩ := hx
      generalize hq : a.eval x = q at hb
      cases hb
      refine plain (s := convert src d (a.eval x)) (r := .string ⟨s.toArray⟩) (by simp [execOp, hop]) ?_ (.one (.sc (.str s))) rfl rfl
      rw [hq]
      simp [convert, run_underlying hu1, run_underlying hu]
  | makeFunc fn first caps =>
    rw [hop] at hx
    simp only [opA] at hx
    split at hx <;> first | (cases hx; done) | skip
    rename_i f l h1 h2
    simp only [okS, OR.val.injEq] at hx
    obtain ⟨rfl, rfl, rfl⟩ := hx
    have hl := ptrsOf_sound he hfr h2
    refine plain (s := Instr.makeFunc (.func f) (first.map a.eval) (caps.map a.eval)) (r := .func (.func f) #[] (caps.toList.map a.eval).toArray) (by simp [execOp, hop]) ?_ (.one (.sc (.func hl))) rfl rfl
    have e1 : first.map a.eval = #[] := by apply Array.ext'; simp [h1]
    have e2 : caps.map a.eval = (caps.toList.map a.eval).toArray := by apply Array.ext'; simp
    rw [e1, e2]; rfl
  | makeSlice ty l m =>
    rw [hop] at hx
    simp only [opA] at hx
    split at hx <;> first | (cases hx; done) | skip
    rename_i e n k h1 h2 h3
    split at hx <;> first | (cases hx; done) | skip
    rename_i s by_ z h4 h5 h6
    split at hx <;> first | (cases hx; done) | skip
    rename_i q1 q2 q3 q4 q5
    obtain ⟨k1, e1⟩ := idxOf_sound he hfr h2
    obtain ⟨k2, e2⟩ := idxOf_sound he hfr h3
    obtain ⟨us, hrun, hrel⟩ := makeSlice_sound (E := E) h1 h4 h5 h6 ((nbeq_false _ _).1 q1) (by have := (nbeq_iff _ _).1 q2; rwa [lenC_eq] at this) ((ble_iff _ _).1 q3) ((ble_iff _ _).1 q4) (by have := (ble_iff _ _).1 q5; omega) (k1 := k1) (k2 := k2) w
    obtain ⟨rfl, hg, hs⟩ := allocRow_sound hr hrel hx hf
    exact value (s := Instr.makeSlice ty (a.eval l) (a.eval m)) (r := .slice (some ⟨w.heap.size, 0, none⟩) n k) (by simp [execOp, hop]) (by rw [e1, e2]; exact hrun) (.one (.sc (SR.slice (c := .exact k) hs))) hg
  | slice ty x lo hi mx =>
    rw [hop] at hx
    simp only [opA] at hx
    split at hx <;> first | (cases hx; done) | skip
    rename_i s l u m h1 h2 h3 h4
    have bd : ∀ {y : Option Operand} {n : Option Nat}, boundOf X.G t y = some n → BdR n (y.map a.eval) := by
      intro y n hy
      cases y with
      | none => cases hy; trivial
      | some y =>
        simp only [boundOf] at hy
        cases hi : idxOf X.G y t with
        | none => rw [hi] at hy; cases hy
        | some n' =>
          rw [hi] at hy; cases hy
          obtain ⟨k, e⟩ := idxOf_sound he hfr hi
          simp only [Option.map_some, e]; rfl
    cases h5 : sliceA X ty s l u m h with
    | none => rw [h5] at hx; cases hx
    | some s' =>
      rw [h5] at hx
      simp only [ofS, okS, OR.val.injEq] at hx
      obtain ⟨rfl, rfl, rfl⟩ := hx
      obtain ⟨r, hrun, hrel⟩ := sliceA_sound hr h5 (opdS_sound he hfr h1) (bd h2) (bd h3) (bd h4)
      exact plain (s := Instr.sliceAt ty (a.eval x) (lo.map a.eval) (hi.map a.eval) (mx.map a.eval)) (r := r) (by simp [execOp, hop]) hrun (.one (.sc hrel)) rfl rfl
  | fieldAddr ty x f =>
    rw [hop] at hx
    simp only [opA] at hx
    split at hx <;> first | (cases hx; done) | skip
    rename_i o' id off h1 h2
    simp only [okS, OR.val.injEq] at hx
    obtain ⟨rfl, rfl, rfl⟩ := hx
    obtain ⟨r, hrun, hrel⟩ := fieldAddr_sound h1 (opdS_sound he hfr h2) w
    exact plain (s := Instr.fieldAt ty (a.eval x) f) (r := r) (by simp [execOp, hop]) hrun (.one (.sc hrel)) rfl rfl
  | field ty x f =>
    rw [hop] at hx
    simp only [opA] at hx
    split at hx <;> first | (cases hx; done) | skip
    rename_i fd cs h1 h2
    cases h3 : partA X.P fd.type cs fd.offset with
    | none => rw [h3] at hx; cases hx
    | some u =>
      rw [h3] at hx
      simp only [of1, okV, OR.val.injEq] at hx
      obtain ⟨rfl, rfl, rfl⟩ := hx
      have hb := opd1_sound he hfr h2
      generalize hq : a.eval x = q at hb
      cases hb with
      | agg hb =>
        obtain ⟨r, hrun, hrel⟩ := fieldA_sound h1 h3 hb w
        exact plain (s := Instr.field ty (a.eval x) f) (r := r) (by simp [execOp, hop]) (by rw [hq]; exact hrun) (.one hrel) rfl rfl
  | indexAddr ty x i =>
    rw [hop] at hx
    simp only [opA] at hx
    split at hx <;> first | (cases hx; done) | skip
    rename_i s n h1 h2
    cases h3 : idxAddrA X ty s n with
    | none => rw [h3] at hx; cases hx
    | some u =>
      rw [h3] at hx
      simp only [ofS, okS, OR.val.injEq] at hx
      obtain ⟨rfl, rfl, rfl⟩ := hx
      obtain ⟨k, e⟩ := idxOf_sound he hfr h2
      obtain ⟨r, hrun, hrel⟩ := idxAddrA_sound h3 (opdS_sound he hfr h1) k w
      exact plain (s := Instr.indexAt ty (a.eval x) (a.eval i)) (r := r) (by simp [execOp, hop]) (by rw [e]; exact hrun) (.one (.sc hrel)) rfl rfl
  | index ty x i =>
    rw [hop] at hx
    simp only [opA] at hx
    split at hx <;> first | (cases hx; done) | skip
    rename_i s n h1 h2
    cases h3 : indexA X ty s n with
    | none => rw [h3] at hx; cases hx
    | some u =>
      rw [h3] at hx
      simp only [of1, okV, OR.val.injEq] at hx
      obtain ⟨rfl, rfl, rfl⟩ := hx
      obtain ⟨k, e⟩ := idxOf_sound he hfr h2
      obtain ⟨r, hrun, hrel⟩ := indexA_sound h3 (opd1_sound he hfr h1) k w
      exact plain (s := Instr.index ty (a.eval x) (a.eval i)) (r := r) (by simp [execOp, hop]) (by rw [e]; exact hrun) (.one hrel) rfl rfl
  | extract x i =>
    rw [hop] at hx
    simp only [opA] at hx
    split at hx <;> first | (cases hx; done) | skip
    rename_i vs h1
    have hb := opd_sound he hfr h1
    cases h3 : vs[i]? with
    | none => rw [h3] at hx; cases hx
    | some u =>
      rw [h3] at hx
      simp only [of1, okV, OR.val.injEq] at hx
      obtain ⟨rfl, rfl, rfl⟩ := hx
      generalize hq : a.eval x = q at hb
      cases hb with
      | tup hb =>
        obtain ⟨r, hrun, hrel⟩ := hb.get? i u h3
        exact plain (s := Instr.extract (a.eval x) i) (r := r) (by simp [execOp, hop]) (by rw [hq]; simp [Instr.extract, hrun]) (.one hrel) rfl rfl
  | call cl =>
    rw [hop] at hx
    simp only [opA, callA] at hx
    split at hx <;> first | (cases hx; done) | skip
    · rename_i b hc
      cases h1 : opds1 X.G t cl.args.toList with
      | none => rw [h1] at hx; cases hx
      | some args =>
        rw [h1] at hx
        simp only at hx
        have hargs := opds1_sound he hfr h1
        obtain ⟨r, w', E', hrun, hrel, hg⟩ := builtinA_sound he hr hx hf hargs o.type (cl.args.map fun | .const _ => true | _ => false)
        unfold Oper.wp
        have e1 : cl.argTypes.toList.toArray = cl.argTypes := by simp
        have e2 : (cl.args.toList.map a.eval).toArray = cl.args.map a.eval := by apply Array.ext'; simp
        rw [e1, e2] at hrun
        have : (execOp a.eval o).run X.P w = .ok (.value r) w' := by
          simp only [execOp, hop, resolve, hc, Sem.run_bind, Sem.run_pure, Result.andThen_ok, invoke]
          exact hrun
        rw [this]
        exact hk r w' E' hrel hg
    · rename_i f hc
      split at hx <;> first | (cases hx; done) | skip
      rename_i g caps args h1 h2
      have hargs := opds1_sound he hfr h2
      have hb := opdS_sound he hfr h1
      obtain ⟨⟨fn, hfn, hbody⟩, hcalls⟩ := hcall g _ h c v h' c' hx
      generalize hq : a.eval f = q at hb
      cases hb with
      | func hcap =>
        rename_i vs
        have hall := hargs.append (ptrArgs_sound hcap)
        have hC := hcalls E w _ he hr hall hf
        unfold Oper.wp
        have e2 : cl.args.map a.eval ++ vs.toArray = (cl.args.toList.map a.eval ++ vs).toArray := by apply Array.ext'; simp
        have : (execOp a.eval o).run X.P w = .ok (.enter g (cl.args.toList.map a.eval ++ vs).toArray) w := by
          have hbn : fn.body.isNone = false := by cases hb : fn.body <;> simp_all
          simp only [execOp, hop, resolve, hc, hq, Deferred.ofValue, Sem.run_bind, Sem.run_pure, Result.andThen_ok, invoke, callFunc, run_program, hfn, hnum g fn hfn, Bool.false_eq_true, if_false, hbn]
          congr 2
          rw [← e2]; simp
        rw [this, Oper.upon_enter]
        refine hC.mono ?_
        rintro e w' ⟨r, E', rfl, h3, h4⟩
        exact hk r w' E' h3 h4
  | _ => rw [hop] at hx; cases hx
end Go.Proofs.YtnnilbambpfhiaaGreatDoor.Ev
