/-
  Regions: one operation behind the other.
-/
import Derived.Test.YtnnilbambpfhiaaGreatDoorEv12
namespace Go.Proofs.YtnnilbambpfhiaaGreatDoor.Ev
open Go
variable {E : Env} {w : World} {h : Heap}

theorem wantedA_sound {nt : Nat} {t : Tmps} {a : Act} (hfr : FR E nt t a) (ops : Array Oper) (o : Oper) {b : Bool} (hw : wantedA (guardOf ops o) t = some b) : Region.wanted o (yielded ops a.tmps) = b := by
  unfold guardOf at hw
  cases hg : o.guard with
  | none => rw [hg] at hw; cases hw; simp [Region.wanted, hg]
  | some p =>
    obtain ⟨j, want⟩ := p
    rw [hg] at hw
    simp only at hw
    cases hd : (ops[j]?).bind (·.dst) with
    | none =>
      rw [hd] at hw; cases hw
      simp [Region.wanted, hg, yielded, hd]
    | some d =>
      rw [hd] at hw
      simp only [wantedA] at hw
      cases ht : tget t d with
      | none => rw [ht] at hw; cases hw
      | some v =>
        rw [ht] at hw
        have hv := hfr.tmp d v ht
        have hy : ∀ x : Value, a.tmps.getD d undef = x → (match x with | .bool _ => True | _ => False) → a.tmps[d]? = some x := by
          intro x hx hb
          cases hq : a.tmps[d]? with
          | none => rw [Array.getD_eq_getD_getElem?, hq] at hx; subst hx; exact hb.elim
          | some y => rw [Array.getD_eq_getD_getElem?, hq] at hx; simp at hx; rw [hx]
        have hn : ∀ x : Value, a.tmps.getD d undef = x → (match x with | .bool _ => False | _ => True) → yielded ops a.tmps j = none := by
          intro x hx hb
          unfold yielded
          rw [hd]
          simp only [Option.bind_some]
          cases hq : a.tmps[d]? with
          | none => rfl
          | some y =>
            have : y = x := by rw [Array.getD_eq_getD_getElem?, hq] at hx; simpa using hx
            subst this
            cases y <;> first | rfl | exact hb.elim
        split at hw
        · cases hw
        · rename_i b' h1
          cases h1
          simp only [Option.some.injEq] at hw
          generalize hq : a.tmps.getD d undef = q at hv
          cases hv with | one hv => cases hv with | sc hv =>
          cases hv
          have := hy _ hq trivial
          subst hw
          simp only [Region.wanted, hg, yielded, hd, Option.bind_some, this]
          cases b' <;> cases want <;> rfl
        · rename_i v' hnb h1
          cases hw
          cases h1
          generalize hq : a.tmps.getD d undef = q at hv
          have hno : yielded ops a.tmps j = none := by
            refine hn q hq ?_
            cases hv with
            | tup hv => trivial
            | one hv =>
              cases hv with
              | agg hv => trivial
              | sc hv => cases hv <;> first | trivial | exact (hnb _ rfl).elim
          simp only [Region.wanted, hg, hno]
          rfl

/-- an operation of a region, done or not -/
theorem oneA_wp {X : Ctx} {callF : CallF} (hnum : NoNum X.P) (hcall : CallOk X callF) (he : EOk X E) (hr : HR X.P E h w) {nt : Nat} {t : Tmps} {a : Act} (hfr : FR E nt t a) {ops : Array Oper} {i : Nat} {o : Oper} (ho : ops[i]? = some o) {c : Nat}
    {t' : Tmps} {h' : Heap} {c' : Nat} (hx : oneA X callF nt ops o t h c = .ok t' h' c') (hf : Fresh E c c') (next : Act → World → Prop) (Q : Go.Exit → Act → World → Prop)
    (hk : ∀ a' w' E', FR E' nt t' a' → Goes X.P E w h c E' w' h' c' → next a' w') : wpOp X.P ops Q i next a w := by
  unfold wpOp
  rw [ho]
  simp only
  have fin : ∀ {r : OR}, finA nt o.dst c r t = .ok t' h' c' → ∃ v, r = .val v h' c' ∧ putA nt o.dst v t = some t' := by
    intro r hr
    unfold finA at hr
    split at hr <;> first | (cases hr; done) | skip
    rename_i v h1 c1
    split at hr <;> first | (cases hr; done) | skip
    rename_i t1 hp _
    cases hr
    exact ⟨v, rfl, hp⟩
  have done : finA nt o.dst c (opA X callF o.op t h c) t = .ok t' h' c' → Region.wanted o (yielded ops a.tmps) = true → (if Region.wanted o (yielded ops a.tmps) = true then o.wp X.P a w next Q ∨ (o.asks X.P a w ∧ LetsOut Q) else next (a.put o.dst undef) w) := by
    intro hd hw
    obtain ⟨v, h1, h2⟩ := fin hd
    rw [if_pos hw]
    exact .inl (opA_wp hnum hcall he hr hfr h1 hf next Q fun r w' E' hv hg => hk _ _ E' ((hfr.mono hg.le).put h2 hv) hg)
  unfold oneA at hx
  cases hg : guardOf ops o with
  | none =>
    rw [hg] at hx
    exact done hx (wantedA_sound hfr ops o (by rw [hg]; rfl))
  | some g =>
    rw [hg] at hx
    simp only at hx
    split at hx <;> first | (cases hx; done) | skip
    · rename_i hw
      exact done hx (wantedA_sound hfr ops o (by rw [hg]; exact hw))
    · rename_i hw
      obtain ⟨v, h1, h2⟩ := fin hx
      simp only [okV, OR.val.injEq] at h1
      obtain ⟨rfl, rfl, rfl⟩ := h1
      have := wantedA_sound hfr ops o (by rw [hg]; exact hw)
      rw [if_neg (by rw [this]; simp)]
      exact hk _ _ E (hfr.put h2 (AVR.undef E)) (.refl hr)
theorem oneA_le {X : Ctx} {callF : CallF} {nt : Nat} {ops : Array Oper} {o : Oper} {t t' : Tmps} {h h' : Heap} {c c' : Nat} (hx : oneA X callF nt ops o t h c = .ok t' h' c') : c ≤ c' := by
  have fin : ∀ {r : OR}, finA nt o.dst c r t = .ok t' h' c' → c ≤ c' := by
    intro r hr
    unfold finA at hr
    split at hr <;> first | (cases hr; done) | skip
    split at hr <;> first | (cases hr; done) | skip
    rename_i hp
    cases hr
    exact (ble_iff _ _).1 hp
  unfold oneA at hx
  cases hg : guardOf ops o with
  | none => rw [hg] at hx; exact fin hx
  | some g =>
    rw [hg] at hx
    simp only at hx
    split at hx <;> first | (cases hx; done) | exact fin hx
theorem seqA_cons (X : Ctx) (callF : CallF) (nt : Nat) (ops : Array Oper) (o : Oper) (r : List Oper) (t : Tmps) (h : Heap) (c : Nat) :
    seqA X callF nt ops (o :: r) t h c = (oneA X callF nt ops o t h c).bind (seqA X callF nt ops r) := rfl
theorem seqA_le {X : Ctx} {callF : CallF} {nt : Nat} {ops : Array Oper} : ∀ {l : List Oper} {t t' : Tmps} {h h' : Heap} {c c' : Nat}, seqA X callF nt ops l t h c = .ok t' h' c' → c ≤ c'
  | [], t, t', h, h', c, c', hx => by
    have : RS.ok t h c = .ok t' h' c' := hx
    cases this; exact Nat.le_refl _
  | o :: r, t, t', h, h', c, c', hx => by
    rw [seqA_cons] at hx
    cases h1 : oneA X callF nt ops o t h c with
    | bad => rw [h1] at hx; cases hx
    | ok t1 h1' c1 =>
      rw [h1] at hx
      exact Nat.le_trans (oneA_le h1) (seqA_le hx)
theorem seqA_wp {X : Ctx} {callF : CallF} (hnum : NoNum X.P) (hcall : CallOk X callF) {nt : Nat} {ops : Array Oper} (Q : Go.Exit → Act → World → Prop) :
    ∀ (l : List Oper) (k : Nat) (_ : ∀ j o, l[j]? = some o → ops[k + j]? = some o) {E : Env} {w : World} {h : Heap} {t : Tmps} {a : Act} {c : Nat} {t' : Tmps} {h' : Heap} {c' : Nat}
      (_ : EOk X E) (_ : HR X.P E h w) (_ : FR E nt t a) (_ : seqA X callF nt ops l t h c = .ok t' h' c') (_ : Fresh E c c')
      (_ : ∀ a' w' E', FR E' nt t' a' → Goes X.P E w h c E' w' h' c' → Q .normal a' w'), wpOps X.P ops Q ((List.range l.length).map (k + ·)) a w
  | [], k, _, E, w, h, t, a, c, t', h', c', he, hr, hfr, hx, hf, hk => by
    have : RS.ok t h c = .ok t' h' c' := hx
    cases this
    exact hk a w E hfr (.refl hr)
  | o :: r, k, hl, E, w, h, t, a, c, t', h', c', he, hr, hfr, hx, hf, hk => by
    rw [seqA_cons] at hx
    cases h1 : oneA X callF nt ops o t h c with
    | bad => rw [h1] at hx; cases hx
    | ok t1 h1' c1 =>
      rw [h1] at hx
      have hx' : seqA X callF nt ops r t1 h1' c1 = .ok t' h' c' := hx
      have hle := seqA_le hx'
      have e : (List.range (o :: r).length).map (k + ·) = k :: (List.range r.length).map (k + 1 + ·) := by
        rw [List.length_cons, List.range_succ_eq_map, List.map_cons, List.map_map]
        congr 1
        apply List.map_congr_left
        intro j _
        simp only [Function.comp]; omega
      rw [e, wpOps_cons]
      refine oneA_wp hnum hcall he hr hfr (hl 0 o rfl) h1 (hf.left hle) _ Q ?_
      intro a1 w1 E1 hfr1 hg1
      refine seqA_wp hnum hcall Q r (k + 1) (fun j o' hj => by have := hl (j + 1) o' (by simpa using hj); rwa [show k + (j + 1) = k + 1 + j by omega] at this) (he.mono hg1.le) hg1.hr hfr1 hx' (hg1.freshR hf) ?_
      intro a2 w2 E2 hfr2 hg2
      exact hk a2 w2 E2 hfr2 (hg1.trans hg2)
end Go.Proofs.YtnnilbambpfhiaaGreatDoor.Ev
