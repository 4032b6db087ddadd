/-
  A loop that is known: what it says.
-/
import Derived.Test.YtnnilbambpfhiaaGreatDoorEv20
import Derived.Test.YtnnilbambpfhiaaGreatDoorEv28
namespace Go.Proofs.YtnnilbambpfhiaaGreatDoor.Ev
open Go

/-! A piece of code with another way through one of its pieces. -/
/-- a piece of code is run rightly, where the unknowns are as Φ says -/
def RunIf (X : Ctx) (nt : Nat) (Φ : (Nat → Int) → Prop) (run : Tmps → Heap → Nat → R) (cd : Code) : Prop := ∀ t h c ex t' h' c', run t h c = .ok ex t' h' c' → c ≤ c' ∧
  ∀ (E : Env) (w : World) (a : Act) (Q : Go.Exit → Act → World → Prop), Φ E.ρ → EOk X E → HR X.P E h w → FR E nt t a → Fresh E c c' →
    (∀ a' w' E', FR E' nt t' a' → Goes X.P E w h c E' w' h' c' → Q (exOf ex) a' w') → cd.wp X.P Q a w
theorem RunOk.toIf {X : Ctx} {nt : Nat} {Φ : (Nat → Int) → Prop} {run : Tmps → Heap → Nat → R} {cd : Code} (h : RunOk X nt run cd) : RunIf X nt Φ run cd := fun t h' c ex t' h'' c' hx =>
  let ⟨l, r⟩ := h t h' c ex t' h'' c' hx
  ⟨l, fun E w a Q _ => r E w a Q⟩
theorem RunIf.seq {X : Ctx} {nt : Nat} {Φ : (Nat → Int) → Prop} {f g : Tmps → Heap → Nat → R} {a b : Code} (hf : RunIf X nt Φ f a) (hg : RunIf X nt Φ g b) :
    RunIf X nt Φ (fun t h c => (match f t h c with
        | .ok .normal t' h' c' => g t' h' c'
        | r => r)) (.seq a b) := by
  intro t h c ex t' h' c' hx
  simp only at hx
  split at hx
  · rename_i t1 h1 c1 h2
    obtain ⟨l1, r1⟩ := hf _ _ _ _ _ _ _ h2
    obtain ⟨l2, r2⟩ := hg _ _ _ _ _ _ _ hx
    refine ⟨Nat.le_trans l1 l2, fun E w ac Q hφ he hr hfr hf hk => wp_seq ?_⟩
    refine r1 E w ac _ hφ he hr hfr (hf.left l2) fun a1 w1 E1 hf1 hg1 => ?_
    exact r2 E1 w1 a1 Q (by rw [hg1.le.2]; exact hφ) (he.mono hg1.le) hg1.hr hf1 (hg1.freshR hf) fun a2 w2 E2 hf2 hg2 => hk a2 w2 E2 hf2 (hg1.trans hg2)
  · rename_i hne
    obtain ⟨l1, r1⟩ := hf _ _ _ _ _ _ _ hx
    refine ⟨l1, fun E w ac Q hφ he hr hfr hf hk => wp_seq ?_⟩
    refine r1 E w ac _ hφ he hr hfr hf fun a1 w1 E1 hf1 hg1 => ?_
    have := hk a1 w1 E1 hf1 hg1
    cases ex with
    | normal => exact (hne _ _ _ hx).elim
    | exit id => exact this
    | goto l => exact this
    | ret => exact this
theorem RunIf.block {X : Ctx} {nt : Nat} {Φ : (Nat → Int) → Prop} {f : Tmps → Heap → Nat → R} {b : Code} (hf : RunIf X nt Φ f b) (id : Nat) :
    RunIf X nt Φ (fun t h c => (match f t h c with
      | .ok (.exit j) t' h' c' => (match Nat.beq j id with
        | true => .ok .normal t' h' c'
        | false => .ok (.exit j) t' h' c')
      | r => r)) (.block id b) := by
  intro t h c ex t' h' c' hx
  simp only at hx
  split at hx
  · rename_i j t1 h1 c1 h2
    obtain ⟨l1, r1⟩ := hf _ _ _ _ _ _ _ h2
    split at hx
    · rename_i hj
      cases hx
      refine ⟨l1, fun E w ac Q hφ he hr hfr hf hk => wp_block ?_⟩
      refine r1 E w ac _ hφ he hr hfr hf fun a1 w1 E1 hf1 hg1 => ?_
      simp only [exOf, Exit.inBlock, (nbeq_iff _ _).1 hj, if_true]
      exact hk a1 w1 E1 hf1 hg1
    · rename_i hj
      cases hx
      refine ⟨l1, fun E w ac Q hφ he hr hfr hf hk => wp_block ?_⟩
      refine r1 E w ac _ hφ he hr hfr hf fun a1 w1 E1 hf1 hg1 => ?_
      simp only [exOf, Exit.inBlock, if_neg ((nbeq_false _ _).1 hj)]
      exact hk a1 w1 E1 hf1 hg1
  · rename_i hne
    obtain ⟨l1, r1⟩ := hf _ _ _ _ _ _ _ hx
    refine ⟨l1, fun E w ac Q hφ he hr hfr hf hk => wp_block ?_⟩
    refine r1 E w ac _ hφ he hr hfr hf fun a1 w1 E1 hf1 hg1 => ?_
    have := hk a1 w1 E1 hf1 hg1
    cases ex with
    | exit id => exact (hne _ _ _ _ hx).elim
    | normal => exact this
    | goto l => exact this
    | ret => exact this
theorem codeHk_ok {X : Ctx} {callF : CallF} (hnum : NoNum X.P) (hcall : CallOk X callF) (hmix : X.P.follows .mixedOrders = true) {nt : Nat} {Φ : (Nat → Int) → Prop} {hk : Tmps → Heap → Nat → R} {sub : Code} (hh : RunIf X nt Φ hk sub) :
    ∀ (p : List Bool) (cd : Code), codeAt p cd = some sub → RunIf X nt Φ (codeHk X callF nt hk p cd) cd
  | [], cd, h => by cases h; exact hh
  | x :: p, cd, h => by
    cases cd with
    | seq a b =>
      cases x with
      | true => exact (codeHk_ok hnum hcall hmix hh p a h).seq (codeA_ok hnum hcall hmix 400 b).toIf
      | false => exact (codeA_ok hnum hcall hmix 400 a).toIf.seq (codeHk_ok hnum hcall hmix hh p b h)
    | block id b => exact (codeHk_ok hnum hcall hmix hh p b h).block id
    | _ => cases h
theorem fnHk_ok {X : Ctx} {callF : CallF} (hnum : NoNum X.P) (hcall : CallOk X callF) (hmix : X.P.follows .mixedOrders = true) {f : Nat} {fn : Func} (hfn : X.P.funcs[f]? = some fn)
    {Φ : (Nat → Int) → Prop} {hk : Tmps → Heap → Nat → R} {sub : Code} (hh : RunIf X fn.ntmps Φ hk sub) {p : List Bool} (hp : codeAt p (bodyOf X.P f) = some sub)
    {t : Tmps} {h : Heap} {c : Nat} {v : AV} {h' : Heap} {c' : Nat} (hx : fnHk X callF fn hk p t h c = .val v h' c') : ∀ E w (vs : List Value), Φ E.ρ → EOk X E → HR X.P E h w →
      FR E fn.ntmps t { tmps := vs.toArray ++ Array.replicate (fn.ntmps - vs.toArray.size) undef, defers := [] } → Fresh E c c' →
      Calls X.P f vs.toArray w fun e w' => ∃ r E', e = .returned r ∧ AVR E' v r ∧ Goes X.P E w h c E' w' h' c' := by
  unfold fnHk at hx
  split at hx <;> first | (cases hx; done) | skip
  rename_i b hb
  have hbody : bodyOf X.P f = b := by unfold bodyOf; rw [hfn]; simp only [hb]
  rw [hbody] at hp
  intro E w vs hφ he hr hFR hf
  split at hx <;> first | (cases hx; done) | skip
  all_goals
    rename_i t1 h1 c1 hc
    obtain ⟨l1, r1⟩ := codeHk_ok hnum hcall hmix hh p b hp _ _ _ _ _ _ _ hc
    have hcc : h' = h1 ∧ c' = c1 := by unfold endA at hx; split at hx <;> cases hx; exact ⟨rfl, rfl⟩
    obtain ⟨rfl, rfl⟩ := hcc
    refine calls_of_wp hfn hb ?_
    refine r1 E w _ _ hφ he hr hFR hf fun a' w' E' hf' hg' => ?_
    obtain ⟨_, _, r, hr1, hr2⟩ := endA_sound hg'.hr hf' hx
    exact ⟨hf'.defers, r, hr1, r, E', rfl, hr2, hg'⟩
theorem memo_of_hk {P : Program} {G : Nat} {m : Memo} {callF : CallF} (hnum : NoNum P) (hcall : CallOk ⟨P, G, m.B⟩ callF) (hmix : P.follows .mixedOrders = true) {fn : Func} (hfn : P.funcs[m.f]? = some fn) (hbs : fn.body.isSome = true) (hle : m.args.length ≤ fn.ntmps)
    {hk : Tmps → Heap → Nat → R} {sub : Code} (hh : RunIf ⟨P, G, m.B⟩ fn.ntmps (fun _ => True) hk sub) {p : List Bool} (hp : codeAt p (bodyOf P m.f) = some sub)
    (h : memoIs m (fnHk ⟨P, G, m.B⟩ callF fn hk p (argTmps 0 m.args .leaf) (trieOf m.hin) m.c0) = true) : MemoOk P G m := by
  cases hq : fnHk ⟨P, G, m.B⟩ callF fn hk p (argTmps 0 m.args .leaf) (trieOf m.hin) m.c0 with
  | bad => rw [hq] at h; cases h
  | val v h' c' =>
    rw [hq] at h
    simp only [memoIs] at h
    split at h <;> first | (cases h; done) | skip
    rename_i h1 h2 h3
    refine ⟨⟨fn, hfn, hbs⟩, fun E w vs he hr hv hf => ?_⟩
    have e1 := avEq_eq h1
    have e2 := (nbeq_iff _ _).1 h2
    subst e1; subst e2
    refine Calls.mono (fnHk_ok (X := ⟨P, G, m.B⟩) hnum hcall hmix hfn hh hp hq E w vs True.intro he hr (argTmps_FR hv hle) hf) ?_
    rintro e w' ⟨r, E', p1, p2, p3⟩
    exact ⟨r, E', h', p1, p2, rowsEq_get h3, p3⟩

/-! States. -/
def Glob (G : Nat) (E : Env) : Prop := ∀ g, g < G → ∃ κ, E.σ g = some (g, κ)
noncomputable def denTh (th : Th) (ρ : Nat → Int) : Nat → Int := fun v => match tLook th v with | some L => L.den ρ | none => 0
theorem thEq_eq : ∀ {a b}, thEq a b = true → a = b
  | [], [], _ => rfl
  | [], _ :: _, h => by cases h
  | _ :: _, [], h => by cases h
  | (v, k) :: r, (u, j) :: q, h => by
    simp only [thEq] at h
    split at h <;> first | (cases h; done) | skip
    rename_i h1 h2
    rw [(nbeq_iff _ _).1 h1, linEq_eq h2, thEq_eq h]
theorem Goes.wider {P : Program} {E E' : Env} {w w' : World} {h h' : Heap} {c c' c'' : Nat} (g : Goes P E w h c E' w' h' c') (hc : c' ≤ c'') : Goes P E w h c E' w' h' c'' :=
  { g with
    mono := Nat.le_trans g.mono hc
    dom := fun id x hx => (g.dom id x hx).imp (fun h => h) fun h => ⟨h.1, Nat.lt_of_lt_of_le h.2 hc⟩ }
theorem layT_cons (q : RN) (x : Nat × AV) (l : List (Nat × AV)) : layT q (x :: l) = (match renV q x.2 with
      | none => none
      | some v => (match layT q l with
        | none => none
        | some t => some (tset t x.1 v))) := rfl
theorem layT_get {q : RN} : ∀ {l : List (Nat × AV)} {t : Tmps}, layT q l = some t → ∀ i v, tget t i = some v → ∃ u, tget (trieT l) i = some u ∧ renV q u = some v
  | [], t, h, i, v, hi => by
    have : some Tr.leaf = some t := h
    cases this
    rw [tget_leaf] at hi; cases hi
  | x :: l, t, h, i, v, hi => by
    rw [layT_cons] at h
    split at h <;> first | (cases h; done) | skip
    rename_i y hy
    split at h <;> cases h
    rename_i t1 ht
    rw [trieT_cons]
    by_cases e : i = x.1
    · subst e
      rw [tget_tset] at hi; cases hi
      exact ⟨x.2, tget_tset _ _ _, hy⟩
    · rw [tget_tset_ne _ _ e] at hi
      rw [tget_tset_ne _ _ e]
      exact layT_get ht i v hi
/-- A state of the caller's is the pattern's state. -/
structure Enters (X : Ctx) (E : Env) (w : World) (h : Heap) (nt : Nat) (a : Act) (A : Tm) (m : MS) : Prop where
  glob : Glob X.G (envT E m)
  hr : HR X.P (envT E m) (trieOf A.hin) w
  fr : FR (envT E m) nt (trieT A.tin) a
  fresh : ∀ c1, Fresh (envT E m) A.c0 c1
  rows : RowsIn X.P h m A.hin
  lt : ∀ {i j : Nat}, sLook m.s i = some j → i < A.c0
theorem enters {X : Ctx} {E : Env} {w : World} {t : Tmps} {h : Heap} {nt : Nat} {a : Act} {A : Tm} {th0 : Th} {m1 m : MS} (hg : Glob X.G E) (hr : HR X.P E h w) (hfr : FR E nt t a)
    (h1 : matchT t A.tin ⟨initS X.G, th0⟩ = some m1) (h2 : matchH h A.hin m1 = some m) (hn : nodupA (snds m.s) = true) (hl : allLt A.c0 (fsts m.s) = true) : Enters X E w h nt a A m := by
  obtain ⟨l1, e1⟩ := matchT_ok h1
  have l2 := (matchH_ok (P := X.P) h2).1
  have hlt : ∀ {i j : Nat}, sLook m.s i = some j → i < A.c0 := fun a => allLt_mem hl _ (sLook_mem a).1
  have hrows : RowsIn X.P h m A.hin := RowsIn.of_match h2 (.refl _)
  refine ⟨fun g hgg => ?_, there_hr hr hrows fun a b => sLook_inj hn a b, ⟨fun i v hi => ?_, hfr.size, hfr.defers⟩, fun c1 => there_fresh hlt, hrows, hlt⟩
  · rw [envT_σ ((l1.trans l2).s _ _ (initS_look _ _ hgg))]
    exact hg g hgg
  · obtain ⟨u, k1, k2⟩ := e1 _ (trieT_get i v _ hi)
    exact k2 m E l2 _ (hfr.tmp i u k1)
theorem leaves {X : Ctx} {E : Env} {w : World} {h : Heap} {c : Nat} {nt : Nat} {a : Act} {A F : Tm} {m : MS} (hr : HR X.P E h w) (he : Enters X E w h nt a A m) {D : Nat} (hf : Fresh E c (c + D))
    {h1 h2 : Heap} {t2 : Tmps} (hk : killW m.s A.hin h = some h1) (hl : layH ⟨m, A.c0, c⟩ F.hin h1 = some h2) (ht : layT ⟨m, A.c0, c⟩ F.tin = some t2)
    {E' : Env} {w' : World} {h' : Heap} {a' : Act} (hfr : FR E' nt (trieT F.tin) a') (hrows : ∀ x, x ∈ F.hin → hget h' x.1 = some x.2) (g : Goes X.P (envT E m) w (trieOf A.hin) A.c0 E' w' h' (A.c0 + D)) :
    ∃ E2, FR E2 nt t2 a' ∧ Goes X.P E w h c E2 w' h2 (c + D) := by
  have e : A.c0 + D - A.c0 = D := by omega
  have := goes_back (c1 := A.c0 + D) hr he.rows he.lt (by rw [e]; exact hf) g hrows hk hl
  rw [e] at this
  obtain ⟨b1, b2⟩ := this
  refine ⟨_, ⟨fun i v hi => ?_, hfr.size, hfr.defers⟩, b2⟩
  obtain ⟨u, k1, k2⟩ := layT_get ht i v hi
  exact b1.renV k2 (hfr.tmp i u k1)

/-! The loop. -/
/-- From where A stands and the unknowns are as Φ says, the loop comes to F, by D new numbers at most, within N rounds. -/
def LoopAt (P : Program) (G nt : Nat) (b : Code) (A F : Tm) (ex : Nat) (Φ : (Nat → Int) → Prop) (D N : Nat) : Prop :=
  ∀ (E : Env) (w : World) (a : Act) (Q : Go.Exit → Act → World → Prop), Φ E.ρ → Glob G E → HR P E (trieOf A.hin) w → FR E nt (trieT A.tin) a → Fresh E A.c0 (A.c0 + D) →
    (∀ a' w' E' h', FR E' nt (trieT F.tin) a' → (∀ x, x ∈ F.hin → hget h' x.1 = some x.2) → Goes P E w (trieOf A.hin) A.c0 E' w' h' (A.c0 + D) → Q (.exit ex) a' w') → Code.rounds P b Q N a w
theorem LoopAt.wider {P : Program} {G nt : Nat} {b : Code} {A F : Tm} {ex : Nat} {Φ : (Nat → Int) → Prop} {D D' N : Nat} (h : LoopAt P G nt b A F ex Φ D N) (hD : D ≤ D') : LoopAt P G nt b A F ex Φ D' N :=
  fun E w a Q hφ hg hr hfr hf hQ => h E w a Q hφ hg hr hfr (hf.left (by omega)) fun a' w' E' h' k1 k2 k3 => hQ a' w' E' h' k1 k2 (k3.wider (by omega))
theorem round_ok {P : Program} {G : Nat} {B : Bnds} {callF : CallF} (hnum : NoNum P) (hcall : CallOk ⟨P, G, B⟩ callF) (hmix : P.follows .mixedOrders = true) {nt : Nat} {b : Code} {A A1 F : Tm} {th0 th1 : Th} {d ex : Nat} {Φ Φ1 : (Nat → Int) → Prop} {D D1 N : Nat}
    (hx : roundIs ⟨P, G, B⟩ callF nt b A A1 F th0 th1 d = true) (hΦ : ∀ ρ, Φ ρ → InB B ρ ∧ Φ1 (denTh th1 ρ)) (hD : d + D1 ≤ D) (ih : LoopAt P G nt b A1 F ex Φ1 D1 N) : LoopAt P G nt b A F ex Φ D (N + 1) := by
  intro E w a Q hφ hg hr hfr hf hQ
  obtain ⟨hin, hφ1⟩ := hΦ _ hφ
  unfold roundIs at hx
  split at hx <;> first | (cases hx; done) | skip
  rename_i t h c hc
  split at hx <;> first | (cases hx; done) | skip
  rename_i hcd
  have hcd' : c ≤ A.c0 + d := (ble_iff _ _).1 hcd
  unfold meets at hx
  split at hx <;> first | (cases hx; done) | skip
  rename_i m1 h1
  split at hx <;> first | (cases hx; done) | skip
  rename_i m h2
  split at hx <;> first | (cases hx; done) | skip
  rename_i g1 k1 k2 k3 k4
  split at hx <;> first | (cases hx; done) | skip
  rename_i g2 t2 k5 k6
  split at hx <;> first | (cases hx; done) | skip
  rename_i k7
  obtain ⟨hle, hrun⟩ := codeA_ok (X := ⟨P, G, B⟩) hnum hcall hmix (nt := nt) 400 b _ _ _ _ _ _ _ hc
  rw [rounds_succ]
  refine hrun E w a _ ⟨hin, hg⟩ hr hfr (hf.left (by omega)) fun a1 w1 E1 hf1 hg1 => ?_
  have hg1' : Glob G E1 := fun g hgg => let ⟨κ, hκ⟩ := hg g hgg; ⟨κ, hg1.le.1 _ _ hκ⟩
  have hent := enters (X := ⟨P, G, B⟩) hg1' hg1.hr hf1 h1 h2 k1 k2
  have hth := thEq_eq k3
  have hfr1 : Fresh E1 c (c + D1) := (hg1.freshR hf).left (by omega)
  refine ih (envT E1 m) w1 a1 Q ?_ hent.glob hent.hr hent.fr (hent.fresh _) fun a' w' E' h' p1 p2 p3 => ?_
  · show Φ1 (denTh m.th E1.ρ)
    rw [hth, hg1.le.2]; exact hφ1
  · obtain ⟨E2, q1, q2⟩ := leaves (X := ⟨P, G, B⟩) hg1.hr hent hfr1 k4 k5 k6 p1 p2 p3
    refine hQ a' w' E2 g2 ⟨fun i v hi => ?_, q1.size, q1.defers⟩ (rowsEq_get k7) ((hg1.trans q2).wider (by omega))
    exact q1.tmp i v (tmpsEq_get hx _ (trieT_get i v _ hi))
theorem last_ok {P : Program} {G : Nat} {B : Bnds} {callF : CallF} (hnum : NoNum P) (hcall : CallOk ⟨P, G, B⟩ callF) (hmix : P.follows .mixedOrders = true) {nt : Nat} {b : Code} {A F : Tm} {ex i : Nat} {L R3 : Lin} {d : Nat} {Φ : (Nat → Int) → Prop} {D N c0 : Nat}
    (hx : lastIs ⟨P, G, B⟩ callF nt b A F ex i L d = true) (hΦ : ∀ ρ, Φ ρ → InB B ρ ∧ L.den ρ = R3.den ρ) (hD : d ≤ D) (hN : 4 ≤ N) : LoopAt P G nt b A ⟨(i, .one (.sc (.int .i64 R3))) :: F.tin, F.hin, c0⟩ ex Φ D N := by
  intro E w a Q hφ hg hr hfr hf hQ
  obtain ⟨hin, hφ1⟩ := hΦ _ hφ
  unfold lastIs at hx
  split at hx <;> first | (cases hx; done) | skip
  rename_i j t h c hc
  split at hx <;> first | (cases hx; done) | skip
  rename_i M k1 k2 k3 k4 k5
  have k2' : c ≤ A.c0 + d := (ble_iff _ _).1 k2
  obtain ⟨hle, hrun⟩ := (rounds_ok (codeA_ok (X := ⟨P, G, B⟩) hnum hcall hmix (nt := nt) 400 b) 2 _ _ _).2 _ _ _ _ hc
  have hj := (nbeq_iff _ _).1 k1
  subst hj
  obtain ⟨n, rfl⟩ : ∃ n, N = n + 2 ^ 2 := ⟨N - 4, by omega⟩
  refine hrun E w a Q n ⟨hin, hg⟩ hr hfr (hf.left (by omega)) fun a' w' E' hf' hg' => ?_
  refine hQ a' w' E' h ⟨fun s v hi => ?_, hf'.size, hf'.defers⟩ (rowsEq_get k3) (hg'.wider (by omega))
  rcases List.mem_cons.1 (trieT_get s v _ hi) with e | e
  · cases e
    have := hf'.tmp i _ k5
    cases this with | one this => cases this with | sc this =>
    generalize hq : a'.tmps.getD i undef = q at this
    cases this
    rw [linEq_eq hx, hg'.le.2, hφ1, ← hg'.le.2]
    exact .one (.sc (.int _ _))
  · exact hf'.tmp s v (tmpsEq_get k4 _ e)
theorem loopHk_ok {X : Ctx} {nt : Nat} {b : Code} {A F : Tm} {th0 th1 : Th} {ex D : Nat}
    (H : ∀ ρ, InB X.B ρ → ∃ Φ N, Φ (denTh th1 ρ) ∧ LoopAt X.P X.G nt b A F ex Φ D N) : RunIf X nt (fun _ => True) (loopHk X A F th0 th1 ex D) (.loop b) := by
  intro t h c e t' h' c' hx
  unfold loopHk at hx
  split at hx <;> first | (cases hx; done) | skip
  rename_i m1 h1
  split at hx <;> first | (cases hx; done) | skip
  rename_i m h2
  split at hx <;> first | (cases hx; done) | skip
  rename_i g1 k1 k2 k3 k4
  split at hx <;> first | (cases hx; done) | skip
  rename_i g2 t2 k5 k6
  cases hx
  refine ⟨Nat.le_add_right _ _, fun E w a Q _ he hr hfr hf hk => ?_⟩
  obtain ⟨Φ, N, hφ, hl⟩ := H E.ρ he.inB
  have hent := enters he.glob hr hfr h1 h2 k1 k2
  refine wp_loop_rounds N (hl (envT E m) w a Q ?_ hent.glob hent.hr hent.fr (hent.fresh _) fun a' w' E' h' p1 p2 p3 => ?_)
  · show Φ (denTh m.th E.ρ)
    rw [thEq_eq k3]; exact hφ
  · obtain ⟨E2, q1, q2⟩ := leaves hr hent hf k4 k5 k6 p1 p2 p3
    exact hk a' w' E2 q1 q2
end Go.Proofs.YtnnilbambpfhiaaGreatDoor.Ev
