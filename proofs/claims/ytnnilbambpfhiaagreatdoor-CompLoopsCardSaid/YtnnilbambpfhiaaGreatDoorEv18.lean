/-
  The code, the functions.
-/
import Derived.Test.YtnnilbambpfhiaaGreatDoorEv17
import Derived.LoopN
import Derived.Scope
namespace Go.Proofs.YtnnilbambpfhiaaGreatDoor.Ev
open Go

theorem drawA_le {X : Ctx} {callF : CallF} (hnum : NoNum X.P) (hcall : CallOk X callF) {nt : Nat} {ops : Array Oper} {pl : List PI} (hpl : planned ops = some pl)
    {h : Heap} {t : Tmps} {c : Nat} {t' : Tmps} {h' : Heap} {c' : Nat} (hx : drawA X callF nt ops pl t h c [] = .ok t' h' c') : c ≤ c' := by
  unfold planned at hpl
  cases hp : planOf ops with
  | none => rw [hp] at hpl; cases hpl
  | some l =>
    rw [hp] at hpl
    simp only at hpl
    split at hpl <;> cases hpl
    rename_i h1 h2 h3 h4
    have hP : PlanP ops (befores ops.toList []) l := planGo_ok hp .nil
    have hlr : revP l [] = l.reverse := by rw [revP_eq]; simp
    rw [hlr] at hx h2 h4
    obtain ⟨its, e1, e2, _⟩ := drawA_items (b := befores ops.toList []) hnum hcall (fun i k => Iff.rfl) l.reverse [] [] 0 (by simpa using hP) h2
      ⟨fun _ h => (by cases h), fun _ h => (by cases h), fun _ h => (by cases h), fun _ h => (by cases h), fun k => by simp [bit_zero]⟩ hx
    exact e2
theorem regionA_wp {X : Ctx} {callF : CallF} (hnum : NoNum X.P) (hcall : CallOk X callF) (hmix : X.P.follows .mixedOrders = true) {nt : Nat} {ops : Array Oper} {draw : Bool}
    {h : Heap} {t : Tmps} {c : Nat} {t' : Tmps} {h' : Heap} {c' : Nat} (hx : regionA X callF nt ops draw t h c = .ok t' h' c') : c ≤ c' ∧ ∀ (E : Env) (w : World) (a : Act) (Q : Go.Exit → Act → World → Prop) (id : Nat), EOk X E → HR X.P E h w → FR E nt t a → Fresh E c c' →
      (∀ a' w' E', FR E' nt t' a' → Goes X.P E w h c E' w' h' c' → Q .normal a' w') → (Code.region id ops draw).wp X.P Q a w := by
  unfold regionA at hx
  cases draw with
  | false =>
    simp only at hx
    refine ⟨seqA_le hx, fun E w a Q id he hr hfr hf hk => ?_⟩
    refine wp_region ?_
    have := seqA_wp hnum hcall (ops := ops) Q ops.toList 0 (fun j o hj => by rw [Nat.zero_add]; simpa using hj) he hr hfr hx hf hk
    have e : (List.range ops.toList.length).map (0 + ·) = List.range ops.size := by simp
    rw [e] at this
    exact this
  | true =>
    simp only at hx
    cases hp : planned ops with
    | none => rw [hp] at hx; cases hx
    | some pl =>
      rw [hp] at hx
      exact ⟨drawA_le hnum hcall hp hx, fun E w a Q id he hr hfr hf hk => drawA_wp hnum hcall hmix hp he hr hfr hx hf Q id hk⟩

def exOf : Ex → Go.Exit
  | .normal => .normal
  | .exit id => .exit id
  | .goto l => .goto l
  | .ret => .ret
/-- a piece of code is run rightly -/
def RunOk (X : Ctx) (nt : Nat) (run : Tmps → Heap → Nat → R) (cd : Code) : Prop := ∀ t h c ex t' h' c', run t h c = .ok ex t' h' c' → c ≤ c' ∧
  ∀ (E : Env) (w : World) (a : Act) (Q : Go.Exit → Act → World → Prop), EOk X E → HR X.P E h w → FR E nt t a → Fresh E c c' →
    (∀ a' w' E', FR E' nt t' a' → Goes X.P E w h c E' w' h' c' → Q (exOf ex) a' w') → cd.wp X.P Q a w

/-! Loops. -/
theorem rounds2_zero (body : Tmps → Heap → Nat → R) (t : Tmps) (h : Heap) (c : Nat) : rounds2 body 0 t h c = (match body t h c with
      | .ok .normal t' h' c' => .more t' h' c'
      | r => .done r) := rfl
theorem rounds2_succ (body : Tmps → Heap → Nat → R) (k : Nat) (t : Tmps) (h : Heap) (c : Nat) : rounds2 body (k + 1) t h c = (match rounds2 body k t h c with
      | .more t' h' c' => rounds2 body k t' h' c'
      | d => d) := rfl
theorem rounds_ok {X : Ctx} {nt : Nat} {body : Tmps → Heap → Nat → R} {b : Code} (hb : RunOk X nt body b) : ∀ (k : Nat) (t : Tmps) (h : Heap) (c : Nat),
    (∀ t' h' c', rounds2 body k t h c = .more t' h' c' → c ≤ c' ∧ ∀ (E : Env) (w : World) (a : Act) (Q : Go.Exit → Act → World → Prop) (m : Nat), EOk X E → HR X.P E h w → FR E nt t a → Fresh E c c' →
      (∀ a' w' E', FR E' nt t' a' → Goes X.P E w h c E' w' h' c' → Code.rounds X.P b Q m a' w') → Code.rounds X.P b Q (m + 2 ^ k) a w) ∧
    (∀ ex t' h' c', rounds2 body k t h c = .done (.ok ex t' h' c') → c ≤ c' ∧ ∀ (E : Env) (w : World) (a : Act) (Q : Go.Exit → Act → World → Prop) (m : Nat), EOk X E → HR X.P E h w → FR E nt t a → Fresh E c c' →
      (∀ a' w' E', FR E' nt t' a' → Goes X.P E w h c E' w' h' c' → Q (exOf ex) a' w') → Code.rounds X.P b Q (m + 2 ^ k) a w)
  | 0, t, h, c => by
    constructor
    · intro t' h' c' hx
      rw [rounds2_zero] at hx
      split at hx <;> cases hx
      rename_i h1
      obtain ⟨hle, hrun⟩ := hb _ _ _ _ _ _ _ h1
      refine ⟨hle, fun E w a Q m he hr hfr hf hk => ?_⟩
      rw [Nat.pow_zero, rounds_succ]
      exact hrun E w a _ he hr hfr hf hk
    · intro ex t' h' c' hx
      rw [rounds2_zero] at hx
      split at hx <;> first | (cases hx; done) | skip
      rename_i hne
      simp only [It.done.injEq] at hx
      obtain ⟨hle, hrun⟩ := hb _ _ _ _ _ _ _ hx
      refine ⟨hle, fun E w a Q m he hr hfr hf hk => ?_⟩
      rw [Nat.pow_zero, rounds_succ]
      refine hrun E w a _ he hr hfr hf fun a' w' E' h2 h3 => ?_
      cases ex with
      | normal => exact (hne _ _ _ hx).elim
      | exit id => exact hk a' w' E' h2 h3
      | goto l => exact hk a' w' E' h2 h3
      | ret => exact hk a' w' E' h2 h3
  | k + 1, t, h, c => by
    have e : ∀ m, m + 2 ^ (k + 1) = (m + 2 ^ k) + 2 ^ k := fun m => by rw [Nat.pow_succ]; omega
    constructor
    · intro t' h' c' hx
      rw [rounds2_succ] at hx
      cases h1 : rounds2 body k t h c with
      | done r => rw [h1] at hx; cases hx
      | more t1 h1' c1 =>
        rw [h1] at hx
        obtain ⟨l1, r1⟩ := (rounds_ok hb k t h c).1 _ _ _ h1
        obtain ⟨l2, r2⟩ := (rounds_ok hb k t1 h1' c1).1 _ _ _ hx
        refine ⟨Nat.le_trans l1 l2, fun E w a Q m he hr hfr hf hk => ?_⟩
        rw [e]
        refine r1 E w a Q _ he hr hfr (hf.left l2) fun a1 w1 E1 hf1 hg1 => ?_
        exact r2 E1 w1 a1 Q m (he.mono hg1.le) hg1.hr hf1 (hg1.freshR hf) fun a2 w2 E2 hf2 hg2 => hk a2 w2 E2 hf2 (hg1.trans hg2)
    · intro ex t' h' c' hx
      rw [rounds2_succ] at hx
      cases h1 : rounds2 body k t h c with
      | done r =>
        rw [h1] at hx
        simp only [It.done.injEq] at hx
        subst hx
        obtain ⟨l1, r1⟩ := (rounds_ok hb k t h c).2 _ _ _ _ h1
        refine ⟨l1, fun E w a Q m he hr hfr hf hk => ?_⟩
        rw [e]
        exact r1 E w a Q _ he hr hfr hf hk
      | more t1 h1' c1 =>
        rw [h1] at hx
        obtain ⟨l1, r1⟩ := (rounds_ok hb k t h c).1 _ _ _ h1
        obtain ⟨l2, r2⟩ := (rounds_ok hb k t1 h1' c1).2 _ _ _ _ hx
        refine ⟨Nat.le_trans l1 l2, fun E w a Q m he hr hfr hf hk => ?_⟩
        rw [e]
        refine r1 E w a Q _ he hr hfr (hf.left l2) fun a1 w1 E1 hf1 hg1 => ?_
        exact r2 E1 w1 a1 Q m (he.mono hg1.le) hg1.hr hf1 (hg1.freshR hf) fun a2 w2 E2 hf2 hg2 => hk a2 w2 E2 hf2 (hg1.trans hg2)
theorem loop_ok {X : Ctx} {nt : Nat} {body : Tmps → Heap → Nat → R} {b : Code} (hb : RunOk X nt body b) : RunOk X nt (loopA body) (.loop b) := by
  intro t h c ex t' h' c' hx
  unfold loopA at hx
  split at hx <;> first | (cases hx; done) | skip
  rename_i r h1
  subst hx
  obtain ⟨l1, r1⟩ := (rounds_ok hb 14 t h c).2 _ _ _ _ h1
  exact ⟨l1, fun E w a Q he hr hfr hf hk => wp_loop_rounds _ (r1 E w a Q 0 he hr hfr hf hk)⟩

/-! Scopes. -/
section
variable (P : Program) (b : Code) (Q : Go.Exit → Act → World → Prop)
/-- a piece of code within a scope, with at most so many jumps -/
def ScopeN : Nat → Code → Act → World → Prop
  | 0, _, _, _ => False
  | n + 1, cd, a, w => cd.wp P (fun e a w => match e with
    | .goto l => (match findLabel b l with
      | some rest => ScopeN n rest a w
      | none => Q (.goto l) a w)
    | e => Q e a w) a w
theorem scopeN_ok : ∀ (n : Nat) (cd : Code) (a : Act) (w : World), ScopeN P b Q n cd a w → ∀ (b' : Frame) (k : List Item) (cs : List Frame),
    ∃ e a' w', Q e a' w' ∧ Arrives P (lone (b'.at a (.code cd :: .inScope b :: k)) cs w) b' k cs e a' w'
  | 0, _, _, _, h, _, _, _ => h.elim
  | n + 1, cd, a, w, h, b', k, cs => by
    obtain ⟨e, a₁, w₁, hq, harr⟩ := h b' (.inScope b :: k) cs
    cases e with
    | normal => exact ⟨.normal, a₁, w₁, hq, Steps.trans harr (.one step_inScope)⟩
    | exit id => exact ⟨.exit id, a₁, w₁, hq, fun k' hk => harr k' (by simp [exitTo, hk])⟩
    | goto l =>
      simp only at hq
      cases hl : findLabel b l with
      | some rest =>
        rw [hl] at hq
        obtain ⟨e, a₂, w₂, hq₂, harr₂⟩ := scopeN_ok n rest a₁ w₁ hq b' k cs
        exact ⟨e, a₂, w₂, hq₂, .of_steps (harr _ (by simp [gotoIn, hl])) harr₂⟩
      | none =>
        rw [hl] at hq
        exact ⟨.goto l, a₁, w₁, hq, fun k' hk => harr k' (by simp [gotoIn, hl, hk])⟩
    | ret => exact ⟨_, a₁, w₁, hq, harr⟩
    | panic ch => exact ⟨_, a₁, w₁, hq, harr⟩
    | outgrown => exact ⟨_, a₁, w₁, hq, harr⟩
theorem wp_scope {n : Nat} {a : Act} {w : World} (h : ScopeN P b Q n b a w) : (Code.scope b).wp P Q a w := by
  intro b' k cs
  obtain ⟨e, a₁, w₁, hq, harr⟩ := scopeN_ok P b Q n b a w h b' k cs
  exact ⟨e, a₁, w₁, hq, .of_steps (.one step_scope) harr⟩
end
theorem jumps2_zero (run : Code → Tmps → Heap → Nat → R) (b cd : Code) (t : Tmps) (h : Heap) (c : Nat) : jumps2 run b 0 cd t h c = (match run cd t h c with
      | .ok (.goto l) t' h' c' => (match findLabel b l with
        | some rest => .more rest t' h' c'
        | none => .done (.ok (.goto l) t' h' c'))
      | r => .done r) := rfl
theorem jumps2_succ (run : Code → Tmps → Heap → Nat → R) (b : Code) (k : Nat) (cd : Code) (t : Tmps) (h : Heap) (c : Nat) : jumps2 run b (k + 1) cd t h c = (match jumps2 run b k cd t h c with
      | .more cd' t' h' c' => jumps2 run b k cd' t' h' c'
      | d => d) := rfl
theorem jumps_ok {X : Ctx} {nt : Nat} {run : Code → Tmps → Heap → Nat → R} {b : Code} (hb : ∀ cd, RunOk X nt (run cd) cd) : ∀ (k : Nat) (cd : Code) (t : Tmps) (h : Heap) (c : Nat),
    (∀ cd' t' h' c', jumps2 run b k cd t h c = .more cd' t' h' c' → c ≤ c' ∧ ∀ (E : Env) (w : World) (a : Act) (Q : Go.Exit → Act → World → Prop) (m : Nat), EOk X E → HR X.P E h w → FR E nt t a → Fresh E c c' →
      (∀ a' w' E', FR E' nt t' a' → Goes X.P E w h c E' w' h' c' → ScopeN X.P b Q m cd' a' w') → ScopeN X.P b Q (m + 2 ^ k) cd a w) ∧
    (∀ ex t' h' c', jumps2 run b k cd t h c = .done (.ok ex t' h' c') → c ≤ c' ∧ ∀ (E : Env) (w : World) (a : Act) (Q : Go.Exit → Act → World → Prop) (m : Nat), EOk X E → HR X.P E h w → FR E nt t a → Fresh E c c' →
      (∀ a' w' E', FR E' nt t' a' → Goes X.P E w h c E' w' h' c' → Q (exOf ex) a' w') → ScopeN X.P b Q (m + 2 ^ k) cd a w)
  | 0, cd, t, h, c => by
    constructor
    · intro cd' t' h' c' hx
      rw [jumps2_zero] at hx
      split at hx
      · rename_i l t1 h1 c1 h2
        split at hx <;> cases hx
        rename_i h3
        obtain ⟨hle, hrun⟩ := hb _ _ _ _ _ _ _ _ h2
        refine ⟨hle, fun E w a Q m he hr hfr hf hk => ?_⟩
        rw [Nat.pow_zero]
        refine hrun E w a _ he hr hfr hf fun a' w' E' h4 h5 => ?_
        simp only [exOf, h3]
        exact hk a' w' E' h4 h5
      · cases hx
    · intro ex t' h' c' hx
      rw [jumps2_zero] at hx
      split at hx
      · rename_i l t1 h1 c1 h2
        split at hx <;> cases hx
        rename_i h3
        obtain ⟨hle, hrun⟩ := hb _ _ _ _ _ _ _ _ h2
        refine ⟨hle, fun E w a Q m he hr hfr hf hk => ?_⟩
        rw [Nat.pow_zero]
        refine hrun E w a _ he hr hfr hf fun a' w' E' h4 h5 => ?_
        simp only [exOf, h3]
        exact hk a' w' E' h4 h5
      · rename_i hne
        simp only [ItS.done.injEq] at hx
        obtain ⟨hle, hrun⟩ := hb _ _ _ _ _ _ _ _ hx
        refine ⟨hle, fun E w a Q m he hr hfr hf hk => ?_⟩
        rw [Nat.pow_zero]
        refine hrun E w a _ he hr hfr hf fun a' w' E' h4 h5 => ?_
        cases ex with
        | goto l => exact (hne _ _ _ _ hx).elim
        | normal => exact hk a' w' E' h4 h5
        | exit id => exact hk a' w' E' h4 h5
        | ret => exact hk a' w' E' h4 h5
  | k + 1, cd, t, h, c => by
    have e : ∀ m, m + 2 ^ (k + 1) = (m + 2 ^ k) + 2 ^ k := fun m => by rw [Nat.pow_succ]; omega
    constructor
    · intro cd' t' h' c' hx
      rw [jumps2_succ] at hx
      cases h1 : jumps2 run b k cd t h c with
      | done r => rw [h1] at hx; cases hx
      | more cd1 t1 h1' c1 =>
        rw [h1] at hx
        obtain ⟨l1, r1⟩ := (jumps_ok hb k cd t h c).1 _ _ _ _ h1
        obtain ⟨l2, r2⟩ := (jumps_ok hb k cd1 t1 h1' c1).1 _ _ _ _ hx
        refine ⟨Nat.le_trans l1 l2, fun E w a Q m he hr hfr hf hk => ?_⟩
        rw [e]
        refine r1 E w a Q _ he hr hfr (hf.left l2) fun a1 w1 E1 hf1 hg1 => ?_
        exact r2 E1 w1 a1 Q m (he.mono hg1.le) hg1.hr hf1 (hg1.freshR hf) fun a2 w2 E2 hf2 hg2 => hk a2 w2 E2 hf2 (hg1.trans hg2)
    · intro ex t' h' c' hx
      rw [jumps2_succ] at hx
      cases h1 : jumps2 run b k cd t h c with
      | done r =>
        rw [h1] at hx
        simp only [ItS.done.injEq] at hx
        subst hx
        obtain ⟨l1, r1⟩ := (jumps_ok hb k cd t h c).2 _ _ _ _ h1
        refine ⟨l1, fun E w a Q m he hr hfr hf hk => ?_⟩
        rw [e]
        exact r1 E w a Q _ he hr hfr hf hk
      | more cd1 t1 h1' c1 =>
        rw [h1] at hx
        obtain ⟨l1, r1⟩ := (jumps_ok hb k cd t h c).1 _ _ _ _ h1
        obtain ⟨l2, r2⟩ := (jumps_ok hb k cd1 t1 h1' c1).2 _ _ _ _ hx
        refine ⟨Nat.le_trans l1 l2, fun E w a Q m he hr hfr hf hk => ?_⟩
        rw [e]
        refine r1 E w a Q _ he hr hfr (hf.left l2) fun a1 w1 E1 hf1 hg1 => ?_
        exact r2 E1 w1 a1 Q m (he.mono hg1.le) hg1.hr hf1 (hg1.freshR hf) fun a2 w2 E2 hf2 hg2 => hk a2 w2 E2 hf2 (hg1.trans hg2)
theorem scope_ok {X : Ctx} {nt : Nat} {run : Code → Tmps → Heap → Nat → R} {b : Code} (hb : ∀ cd, RunOk X nt (run cd) cd) : RunOk X nt (scopeA run b) (.scope b) := by
  intro t h c ex t' h' c' hx
  unfold scopeA at hx
  split at hx <;> first | (cases hx; done) | skip
  rename_i r h1
  subst hx
  obtain ⟨l1, r1⟩ := (jumps_ok hb 14 b t h c).2 _ _ _ _ h1
  exact ⟨l1, fun E w a Q he hr hfr hf hk => wp_scope X.P b Q (r1 E w a Q 0 he hr hfr hf hk)⟩

/-! The code. -/
theorem bare_ok {X : Ctx} {nt : Nat} {cd : Code} {ex : Ex} (hwp : ∀ Q a w, Q (exOf ex) a w → cd.wp X.P Q a w) : RunOk X nt (fun t h c => .ok ex t h c) cd := by
  intro t h c ex' t' h' c' hx
  cases hx
  exact ⟨Nat.le_refl _, fun E w a Q he hr hfr hf hk => hwp Q a w (hk a w E hfr (.refl hr))⟩
theorem codeStep_ok {X : Ctx} {callF : CallF} (hnum : NoNum X.P) (hcall : CallOk X callF) (hmix : X.P.follows .mixedOrders = true) {nt : Nat} {run : Code → Tmps → Heap → Nat → R} (hb : ∀ cd, RunOk X nt (run cd) cd) (cd : Code) :
    RunOk X nt (codeStep X callF nt run cd) cd := by
  cases cd with
  | skip => exact bare_ok fun Q a w h => wp_skip h
  | label l => exact bare_ok fun Q a w h => wp_label h
  | exit id => exact bare_ok fun Q a w h => wp_exit h
  | goto l => exact bare_ok fun Q a w h => wp_goto h
  | ret => exact bare_ok fun Q a w h => wp_ret h
  | region id ops d =>
    intro t h c ex t' h' c' hx
    simp only [codeStep] at hx
    cases h1 : regionA X callF nt ops d t h c with
    | bad => rw [h1] at hx; cases hx
    | ok t1 h1' c1 =>
      rw [h1] at hx
      cases hx
      obtain ⟨l, r⟩ := regionA_wp hnum hcall hmix h1
      exact ⟨l, fun E w a Q he hr hfr hf hk => r E w a Q id he hr hfr hf hk⟩
  | seq a b =>
    intro t h c ex t' h' c' hx
    simp only [codeStep] at hx
    split at hx
    · rename_i t1 h1 c1 h2
      obtain ⟨l1, r1⟩ := hb a _ _ _ _ _ _ _ h2
      obtain ⟨l2, r2⟩ := hb b _ _ _ _ _ _ _ hx
      refine ⟨Nat.le_trans l1 l2, fun E w ac Q he hr hfr hf hk => wp_seq ?_⟩
      refine r1 E w ac _ he hr hfr (hf.left l2) fun a1 w1 E1 hf1 hg1 => ?_
      exact r2 E1 w1 a1 Q (he.mono hg1.le) hg1.hr hf1 (hg1.freshR hf) fun a2 w2 E2 hf2 hg2 => hk a2 w2 E2 hf2 (hg1.trans hg2)
    · rename_i hne
      obtain ⟨l1, r1⟩ := hb a _ _ _ _ _ _ _ hx
      refine ⟨l1, fun E w ac Q he hr hfr hf hk => wp_seq ?_⟩
      refine r1 E w ac _ he hr hfr hf fun a1 w1 E1 hf1 hg1 => ?_
      have := hk a1 w1 E1 hf1 hg1
      cases ex with
      | normal => exact (hne _ _ _ hx).elim
      | exit id => exact this
      | goto l => exact this
      | ret => exact this
  | cond x a b =>
    intro t h c ex t' h' c' hx
    simp only [codeStep] at hx
    split at hx <;> first | (cases hx; done) | skip
    · rename_i h1
      obtain ⟨l1, r1⟩ := hb a _ _ _ _ _ _ _ hx
      refine ⟨l1, fun E w ac Q he hr hfr hf hk => ?_⟩
      have := opdS_sound he hfr h1
      generalize hq : ac.eval x = q at this
      cases this
      exact wp_cond_true hq (r1 E w ac Q he hr hfr hf hk)
    · rename_i h1
      obtain ⟨l1, r1⟩ := hb b _ _ _ _ _ _ _ hx
      refine ⟨l1, fun E w ac Q he hr hfr hf hk => ?_⟩
      have := opdS_sound he hfr h1
      generalize hq : ac.eval x = q at this
      cases this
      exact wp_cond_false hq (r1 E w ac Q he hr hfr hf hk)
  | block id b =>
    intro t h c ex t' h' c' hx
    simp only [codeStep] at hx
    split at hx
    · rename_i j t1 h1 c1 h2
      obtain ⟨l1, r1⟩ := hb b _ _ _ _ _ _ _ h2
      split at hx
      · rename_i hj
        cases hx
        refine ⟨l1, fun E w ac Q he hr hfr hf hk => wp_block ?_⟩
        refine r1 E w ac _ he hr hfr hf fun a1 w1 E1 hf1 hg1 => ?_
        simp only [exOf, Exit.inBlock, (nbeq_iff _ _).1 hj, if_true]
        exact hk a1 w1 E1 hf1 hg1
      · rename_i hj
        cases hx
        refine ⟨l1, fun E w ac Q he hr hfr hf hk => wp_block ?_⟩
        refine r1 E w ac _ he hr hfr hf fun a1 w1 E1 hf1 hg1 => ?_
        simp only [exOf, Exit.inBlock, if_neg ((nbeq_false _ _).1 hj)]
        exact hk a1 w1 E1 hf1 hg1
    · rename_i hne
      obtain ⟨l1, r1⟩ := hb b _ _ _ _ _ _ _ hx
      refine ⟨l1, fun E w ac Q he hr hfr hf hk => wp_block ?_⟩
      refine r1 E w ac _ he hr hfr hf fun a1 w1 E1 hf1 hg1 => ?_
      have := hk a1 w1 E1 hf1 hg1
      cases ex with
      | exit id => exact (hne _ _ _ _ hx).elim
      | normal => exact this
      | goto l => exact this
      | ret => exact this
  | loop b => exact loop_ok (hb b)
  | scope b => exact scope_ok hb
  | rangeFunc f ps as b => intro t h c ex t' h' c' hx; cases hx
  | refuse why => intro t h c ex t' h' c' hx; cases hx
theorem codeA_ok {X : Ctx} {callF : CallF} (hnum : NoNum X.P) (hcall : CallOk X callF) (hmix : X.P.follows .mixedOrders = true) {nt : Nat} : ∀ (n : Nat) (cd : Code), RunOk X nt (codeA X callF nt n cd) cd
  | 0, cd => by intro t h c ex t' h' c' hx; cases hx
  | n + 1, cd => codeStep_ok hnum hcall hmix (codeA_ok hnum hcall hmix n) cd

/-! Functions. -/
theorem argTmps_cons (i : Nat) (v : V1) (l : List V1) (t : Tmps) : argTmps i (v :: l) t = argTmps (i + 1) l (tset t i (.one v)) := rfl
theorem argTmps_get : ∀ (l : List V1) (i : Nat) (t : Tmps) (j : Nat) (v : AV), tget (argTmps i l t) j = some v → (i ≤ j ∧ ∃ x, l[j - i]? = some x ∧ v = .one x) ∨ (tget t j = some v)
  | [], i, t, j, v, h => .inr h
  | x :: l, i, t, j, v, h => by
    rw [argTmps_cons] at h
    rcases argTmps_get l (i + 1) _ j v h with ⟨h1, y, h2, h3⟩ | h
    · refine .inl ⟨by omega, y, ?_, h3⟩
      rw [show j - i = (j - (i + 1)) + 1 by omega]; simpa using h2
    · by_cases e : j = i
      · subst e
        rw [tget_tset] at h; cases h
        exact .inl ⟨Nat.le_refl _, x, by simp, rfl⟩
      · rw [tget_tset_ne _ _ e] at h; exact .inr h
theorem argTmps_FR {E : Env} {nt : Nat} {args : List V1} {vs : List Value} (hv : All2 (V1R E) args vs) (hle : args.length ≤ nt) :
    FR E nt (argTmps 0 args .leaf) { tmps := vs.toArray ++ Array.replicate (nt - vs.toArray.size) undef, defers := [] } := by
  have hl := hv.length
  refine ⟨fun i v hi => ?_, by simp; omega, rfl⟩
  rcases argTmps_get args 0 .leaf i v hi with ⟨_, x, h2, rfl⟩ | h
  · obtain ⟨u, h3, h4⟩ := hv.get? i x (by simpa using h2)
    have hlt : i < vs.length := by
      rcases Nat.lt_or_ge i vs.length with h | h
      · exact h
      · rw [List.getElem?_eq_none h] at h3; cases h3
    have : (vs.toArray ++ Array.replicate (nt - vs.toArray.size) undef).getD i undef = u := by
      rw [Array.getD_eq_getD_getElem?, Array.getElem?_append_left (by simpa using hlt)]
      simp [h3]
    rw [this]; exact .one h4
  · rw [tget_leaf] at h; cases h
theorem resA_sound {X : Ctx} {E : Env} {w : World} {h : Heap} (hr : HR X.P E h w) {nt : Nat} {t : Tmps} {a : Act} (hfr : FR E nt t a) {rv : ResultVar} {v : V1} (hx : resA X t h rv = some v) :
    ∃ r, ((match rv with | .tmp t => pure (a.tmps.getD t undef) | .cell p ty => do loadVar ty (← asAddr (a.tmps.getD p undef))) : Sem Value).run X.P w = .ok r w ∧ V1R E v r := by
  cases rv with
  | tmp i =>
    simp only [resA] at hx
    split at hx <;> cases hx
    rename_i h1
    have := hfr.tmp i _ h1
    cases this with | one h2 => exact ⟨_, rfl, h2⟩
  | cell p ty =>
    simp only [resA] at hx
    split at hx <;> first | (cases hx; done) | skip
    rename_i g n id off h1 h2
    have := hfr.tmp p _ h2
    generalize hq : a.tmps.getD p undef = q at this
    cases this with | one h3 => cases h3 with | sc h3 =>
    obtain ⟨val, h4, h5⟩ := loadA_sound hr h1 hx h3
    cases h3 with
    | ptr hσ =>
      refine ⟨val, ?_, h5⟩
      show ((do loadVar ty (← asAddr (a.tmps.getD p undef)) : Sem Value)).run X.P w = _
      rw [hq]
      simp only [asAddr, Sem.run_bind, Sem.run_pure, Result.andThen_ok]
      simpa [Instr.loadAt, Instr.sureAddr] using h4
theorem ressA_cons (X : Ctx) (t : Tmps) (h : Heap) (r : ResultVar) (l : List ResultVar) : ressA X t h (r :: l) = (match resA X t h r, ressA X t h l with | some v, some vs => some (v :: vs) | _, _ => none) := rfl
theorem ressA_sound {X : Ctx} {E : Env} {w : World} {h : Heap} (hr : HR X.P E h w) {nt : Nat} {t : Tmps} {a : Act} (hfr : FR E nt t a) : ∀ {rs : List ResultVar} {vs : List V1}, ressA X t h rs = some vs →
    ∃ us, (rs.mapM (fun rv => (match rv with | .tmp t => pure (a.tmps.getD t undef) | .cell p ty => do loadVar ty (← asAddr (a.tmps.getD p undef)) : Sem Value)) : Sem (List Value)).run X.P w = .ok us w ∧ All2 (V1R E) vs us
  | [], vs, hx => by
    have : some [] = some vs := hx
    cases this
    exact ⟨[], by simp, .nil⟩
  | r :: l, vs, hx => by
    rw [ressA_cons] at hx
    split at hx <;> cases hx
    rename_i v vs' h1 h2
    obtain ⟨u, e1, e2⟩ := resA_sound hr hfr h1
    obtain ⟨us, e3, e4⟩ := ressA_sound hr hfr h2
    refine ⟨u :: us, ?_, .cons e2 e4⟩
    rw [List.mapM_cons]
    simp only [Sem.run_bind, e1, Result.andThen_ok, e3, Sem.run_pure]
theorem endA_sound {X : Ctx} {E : Env} {w : World} {h : Heap} (hr : HR X.P E h w) {nt : Nat} {t : Tmps} {a : Act} (hfr : FR E nt t a) {fn : Func} {c : Nat} {v : AV} {h' : Heap} {c' : Nat} (hx : endA X fn.results.toList t h c = .val v h' c') :
    h' = h ∧ c' = c ∧ ∃ r, (results fn a.tmps).run X.P w = .ok r w ∧ AVR E v r := by
  unfold endA at hx
  split at hx <;> cases hx
  rename_i vs h1
  obtain ⟨us, e1, e2⟩ := ressA_sound hr hfr h1
  refine ⟨rfl, rfl, ?_⟩
  have hm : (fn.results.mapM (fun rv => (match rv with | .tmp t => pure (a.tmps.getD t undef) | .cell p ty => do loadVar ty (← asAddr (a.tmps.getD p undef)) : Sem Value)) : Sem (Array Value)).run X.P w = .ok us.toArray w := by
    rw [Array.mapM_eq_mapM_toList, Sem.run_map, e1]; rfl
  have hl := e2.length
  have hres : (results fn a.tmps).run X.P w = .ok (if h : us.toArray.size = 1 then us.toArray[0] else .tuple us.toArray) w := by
    unfold results
    rw [Sem.run_bind]
    exact congrArg (fun r : Result (Array Value) => r.andThen fun a w' => (pure (if h : a.size = 1 then a[0] else .tuple a) : Sem Value).run X.P w') hm
  rw [hres]
  cases vs with
  | nil =>
    cases e2
    exact ⟨_, rfl, .tup (vs := []) .nil⟩
  | cons v1 vr =>
    cases vr with
    | nil =>
      obtain ⟨u, rfl, hu⟩ := all2_one e2
      exact ⟨u, by simp, .one hu⟩
    | cons v2 vr =>
      have : ¬ us.toArray.size = 1 := by simp at hl ⊢; omega
      refine ⟨.tuple us.toArray, by rw [dif_neg this], .tup e2⟩
theorem fnA_ok {X : Ctx} {callF : CallF} (hnum : NoNum X.P) (hcall : CallOk X callF) (hmix : X.P.follows .mixedOrders = true) {f : Nat} {fn : Func} (hfn : X.P.funcs[f]? = some fn) {args : List V1} {h : Heap} {c : Nat} {v : AV} {h' : Heap} {c' : Nat}
    (hx : fnA X callF fn args h c = .val v h' c') : fn.body.isSome = true ∧ ∀ E w vs, EOk X E → HR X.P E h w → All2 (V1R E) args vs → Fresh E c c' →
      Calls X.P f vs.toArray w fun e w' => ∃ r E', e = .returned r ∧ AVR E' v r ∧ Goes X.P E w h c E' w' h' c' := by
  unfold fnA at hx
  split at hx <;> first | (cases hx; done) | skip
  rename_i b hb hle
  refine ⟨by rw [hb]; rfl, fun E w vs he hr hv hf => ?_⟩
  have hle' := (ble_iff _ _).1 hle
  have hFR := argTmps_FR hv hle'
  split at hx <;> first | (cases hx; done) | skip
  all_goals
    rename_i t1 h1 c1 hc
    obtain ⟨l1, r1⟩ := codeA_ok hnum hcall hmix (nt := fn.ntmps) 400 b _ _ _ _ _ _ _ hc
    have hcc : h' = h1 ∧ c' = c1 := by unfold endA at hx; split at hx <;> cases hx; exact ⟨rfl, rfl⟩
    obtain ⟨rfl, rfl⟩ := hcc
    refine calls_of_wp hfn hb ?_
    refine r1 E w _ _ he hr hFR hf fun a' w' E' hf' hg' => ?_
    obtain ⟨_, _, r, hr1, hr2⟩ := endA_sound hg'.hr hf' hx
    exact ⟨hf'.defers, r, hr1, r, E', rfl, hr2, hg'⟩
theorem callStep_ok {X : Ctx} {callF : CallF} (hnum : NoNum X.P) (hcall : CallOk X callF) (hmix : X.P.follows .mixedOrders = true) : CallOk X (callStep X callF) := by
  intro f args h c v h' c' hx
  unfold callStep at hx
  cases hfn : X.P.funcs[f]? with
  | none => rw [hfn] at hx; cases hx
  | some fn =>
    rw [hfn] at hx
    obtain ⟨h1, h2⟩ := fnA_ok hnum hcall hmix hfn hx
    exact ⟨⟨fn, rfl, h1⟩, h2⟩
theorem evalA_ok {X : Ctx} (hnum : NoNum X.P) (hmix : X.P.follows .mixedOrders = true) : ∀ n, CallOk X (evalA X n)
  | 0 => by intro f args h c v h' c' hx; cases hx
  | n + 1 => callStep_ok hnum (evalA_ok hnum hmix n) hmix
end Go.Proofs.YtnnilbambpfhiaaGreatDoor.Ev
