/-
  Regions that draw their order: the whole region.
-/
import Derived.Test.YtnnilbambpfhiaaGreatDoorEv15
namespace Go.Proofs.YtnnilbambpfhiaaGreatDoor.Ev
open Go

structure FootOk (x : Itm) (g : Foot) : Prop where
  w : ∀ id, x.W id → id ∈ g.2
  r : ∀ id, x.Hin id ≠ none → x.W id ∨ id ∈ g.1
structure HInd (p q : Itm) : Prop where
  h1 : ∀ id, p.W id → ¬ q.W id
  h2 : ∀ id, p.W id → q.Hin id = none
  h3 : ∀ id, q.W id → p.Hin id = none
/-- what an item is, by its kind -/
structure KindOk (x : Itm) : Prop where
  no : kindOf x.o.op = .no → ∀ id, ¬ x.W id ∧ x.Hin id = none
  rd : kindOf x.o.op = .rd → ∀ id, ¬ x.W id

theorem free_cons (fs : Foots) (f : Foot) (i : Nat) (r : List Nat) : free fs f (i :: r) = (match footOf fs i with
    | none => false
    | some g => (match disj g.2 f.1, disj g.2 f.2, disj f.2 g.1 with
      | true, true, true => free fs f r
      | _, _, _ => false)) := rfl
theorem free_spec {fs : Foots} {f : Foot} : ∀ {l : List Nat}, free fs f l = true → ∀ i, i ∈ l → ∃ g, footOf fs i = some g ∧ (∀ x, x ∈ g.2 → x ∉ f.1) ∧ (∀ x, x ∈ g.2 → x ∉ f.2) ∧ (∀ x, x ∈ f.2 → x ∉ g.1)
  | [], _, i, hi => by cases hi
  | j :: r, h, i, hi => by
    rw [free_cons] at h
    cases hg : footOf fs j with
    | none => rw [hg] at h; cases h
    | some g =>
      rw [hg] at h
      simp only at h
      split at h <;> first | (cases h; done) | skip
      rename_i h1 h2 h3
      rcases List.mem_cons.1 hi with rfl | hi
      · exact ⟨g, hg, (disj_iff _ _).1 h1, (disj_iff _ _).1 h2, (disj_iff _ _).1 h3⟩
      · exact free_spec h i hi
theorem writesOf_cons (fs : Foots) (i : Nat) (r : List Nat) : writesOf fs (i :: r) = (match footOf fs i, writesOf fs r with | some g, some l => some (g.2 ++ l) | _, _ => none) := rfl
theorem readsOf_cons (fs : Foots) (i : Nat) (r : List Nat) : readsOf fs (i :: r) = (match footOf fs i, readsOf fs r with | some g, some l => some (g.1 ++ l) | _, _ => none) := rfl
theorem writesOf_spec {fs : Foots} : ∀ {l ws : List Nat}, writesOf fs l = some ws → ∀ i, i ∈ l → ∃ g, footOf fs i = some g ∧ ∀ x, x ∈ g.2 → x ∈ ws
  | [], _, _, i, hi => by cases hi
  | j :: r, ws, h, i, hi => by
    rw [writesOf_cons] at h
    split at h <;> cases h
    rename_i g l h1 h2
    rcases List.mem_cons.1 hi with rfl | hi
    · exact ⟨g, h1, fun x hx => by simp [hx]⟩
    · obtain ⟨g', q1, q2⟩ := writesOf_spec h2 i hi
      exact ⟨g', q1, fun x hx => by simp [q2 x hx]⟩
theorem readsOf_spec {fs : Foots} : ∀ {l rs : List Nat}, readsOf fs l = some rs → ∀ i, i ∈ l → ∃ g, footOf fs i = some g ∧ ∀ x, x ∈ g.1 → x ∈ rs
  | [], _, _, i, hi => by cases hi
  | j :: r, ws, h, i, hi => by
    rw [readsOf_cons] at h
    split at h <;> cases h
    rename_i g l h1 h2
    rcases List.mem_cons.1 hi with rfl | hi
    · exact ⟨g, h1, fun x hx => by simp [hx]⟩
    · obtain ⟨g', q1, q2⟩ := readsOf_spec h2 i hi
      exact ⟨g', q1, fun x hx => by simp [q2 x hx]⟩
theorem footOf_cons (x : Nat × Foot) (fs : Foots) (i : Nat) : footOf (x :: fs) i = if x.1 = i then some x.2 else footOf fs i := by
  show Bool.rec (motive := fun _ => Option Foot) (footOf fs i) (some x.2) (Nat.beq x.1 i) = _
  cases h : Nat.beq x.1 i with
  | true => rw [if_pos ((nbeq_iff _ _).1 h)]
  | false => rw [if_neg ((nbeq_false _ _).1 h)]

theorem finD_spec {nt : Nat} {dst : Option Tmp} {v : AV} {t : Tmps} {h : Heap} {c : Nat} {fs : Foots} {t' : Tmps} {h' : Heap} {c' : Nat} {fs' : Foots} (hx : finD nt dst v t h c fs = .ok t' h' c' fs') :
    h = h' ∧ c = c' ∧ fs = fs' ∧ (∀ d, dst = some d → d < nt) ∧ ∀ j, tget t' j = if dst = some j then some v else tget t j := by
  unfold finD at hx
  cases hp : putA nt dst v t with
  | none => rw [hp] at hx; cases hx
  | some t1 =>
    rw [hp] at hx; cases hx
    refine ⟨rfl, rfl, rfl, ?_, ?_⟩
    · intro d hd
      subst hd
      simp only [putA] at hp
      cases hb : Nat.blt d nt with
      | false => rw [hb] at hp; cases hp
      | true => exact (blt_iff _ _).1 hb
    · intro j
      cases dst with
      | none => cases hp; simp
      | some d =>
        simp only [putA] at hp
        cases hb : Nat.blt d nt with
        | false => rw [hb] at hp; cases hp
        | true =>
          rw [hb] at hp; cases hp
          by_cases e : j = d
          · subst e; simp [tget_tset]
          · rw [tget_tset_ne _ _ e]; simp [Ne.symm e]

/-- an item of the plan, done -/
structure Done1 (X : Ctx) (nt : Nat) (ops : Array Oper) (p : PI) (t : Tmps) (h : Heap) (c : Nat) (fs : Foots) (t' : Tmps) (h' : Heap) (c' : Nat) (fs' : Foots) (it : Itm) : Prop where
  i : it.i = p.i
  o : it.o = p.o
  c0 : it.c = c
  c1 : it.c1 = c'
  le : c ≤ c'
  good : Good X nt ops it
  app : App ops it (tget t) (hget h)
  t' : tget t' = updT it (tget t)
  h' : hget h' = updH it (hget h)
  fs' : ∃ g, fs' = (p.i, g) :: fs ∧ ((kindOf p.o.op).isCall = false → FootOk it g)
  kind : KindOk it
  ind : ∀ x g, x.i ∈ p.conf → footOf fs x.i = some g → FootOk x g → HInd x it

theorem drawOne_item {X : Ctx} {callF : CallF} (hnum : NoNum X.P) (hcall : CallOk X callF) {nt : Nat} {ops : Array Oper} {p : PI} (ho : ops[p.i]? = some p.o) {t : Tmps} {h : Heap} {c : Nat} {fs : Foots} {t' : Tmps} {h' : Heap} {c' : Nat} {fs' : Foots}
    (hx : drawOne X callF nt ops p t h c fs = .ok t' h' c' fs') : ∃ it, Done1 X nt ops p t h c fs t' h' c' fs' it := by
  unfold drawOne at hx
  split at hx <;> first | (cases hx; done) | skip
  · -- passed over
    rename_i hw
    obtain ⟨rfl, rfl, rfl, hd, ht⟩ := finD_spec hx
    refine ⟨⟨p.i, p.o, c, c, .undef, tget t, fun _ => False, fun _ => none, fun _ => none⟩, rfl, rfl, rfl, rfl, Nat.le_refl _, ?_, ⟨fun _ _ => rfl, fun _ h => h.elim, fun _ _ _ h => (by cases h)⟩, ?_, ?_, ⟨_, rfl, fun _ => ⟨fun _ h => h.elim, fun _ h => absurd rfl h⟩⟩, ⟨fun _ _ => ⟨fun h => h, rfl⟩, fun _ _ h => h⟩, fun x g _ _ _ => ⟨fun _ _ h => h, fun _ _ => rfl, fun _ h => h.elim⟩⟩
    · exact good_skip (t := t) ho rfl (fun _ h => h) rfl hw hd
    · funext j; exact ht j
    · funext id; unfold updH; rw [if_neg (fun h => h)]
  · rename_i hw
    split at hx
    · -- a small one
      rename_i hcl
      cases hf : footA X p.o.op t with
      | none => rw [hf] at hx; cases hx
      | some f =>
        rw [hf] at hx
        simp only at hx
        cases hop : opA X callF p.o.op (liftT t (looks ops p.o)) (restr h f) c with
        | bad => rw [hop] at hx; cases hx
        | val v h1 c1 =>
          rw [hop] at hx
          simp only at hx
          have seen : ∀ (W : Nat → Prop), (∀ id, id ∈ f.2 → W id) → ∀ id r, ¬ W id → hget (restr h f) id = some r → ∃ r0, hget h id = some r0 ∧ r = roRow r0 := by
            intro W hW id r hn hi
            rw [restr_get] at hi
            split at hi
            · rename_i hm; exact absurd (hW id hm) hn
            · split at hi
              · cases hh : hget h id with
                | none => rw [hh] at hi; cases hi
                | some r0 => rw [hh] at hi; simp only [Option.map_some, Option.some.injEq] at hi; exact ⟨r0, rfl, hi.symm⟩
              · cases hi
          split at hx <;> first | (cases hx; done) | skip
          · -- no new row
            rename_i hfit hc hfree
            have hc' := (nbeq_iff _ _).1 hc
            subst hc'
            obtain ⟨rfl, rfl, rfl, hd, ht⟩ := finD_spec hx
            refine ⟨⟨p.i, p.o, c1, c1, v, tget t, fun id => id ∈ f.2, hget (restr h f), hget h1⟩, rfl, rfl, rfl, rfl, Nat.le_refl _, ?_, ⟨fun _ _ => rfl, fun id hW => ?_, seen _ (fun _ h => h)⟩, ?_, ?_, ⟨_, rfl, fun _ => ⟨fun _ h => h, fun id hne => ?_⟩⟩, ⟨fun hk id => ?_, fun hk id => ?_⟩, fun x g hxc hg hfo => ?_⟩
            · exact good_op hnum hcall (t := t) (hin := restr h f) (hout := h1) ho rfl rfl rfl hw hop hd
            · show hget h id = hget (restr h f) id
              rw [restr_get, if_pos hW]
            · funext j; exact ht j
            · funext id
              rw [lift_get]
              unfold updH
              by_cases hm : id ∈ f.2
              · simp [hm]
              · simp [hm]
            · by_cases hm : id ∈ f.2
              · exact .inl hm
              · right
                have : hget (restr h f) id ≠ none := hne
                rw [restr_get, if_neg hm] at this
                by_cases hm1 : id ∈ f.1
                · exact hm1
                · rw [if_neg hm1] at this; exact absurd rfl this
            · have hk' : kindOf p.o.op = .no := hk
              rw [hk'] at hfit
              unfold fits at hfit
              simp only at hfit
              split at hfit <;> first | (cases hfit; done) | skip
              rename_i e1 e2
              refine ⟨by simp [e2], ?_⟩
              show hget (restr h f) id = none
              rw [restr_get]; simp [e1, e2]
            · have hk' : kindOf p.o.op = .rd := hk
              rw [hk'] at hfit
              unfold fits at hfit
              simp only at hfit
              split at hfit <;> first | (cases hfit; done) | skip
              rename_i e2
              simp [e2]
            · obtain ⟨g', q1, q2, q3, q4⟩ := free_spec hfree x.i hxc
              rw [hg] at q1; cases q1
              refine ⟨fun id hW hm => q3 id (hfo.w id hW) hm, fun id hW => ?_, fun id hm => ?_⟩
              · show hget (restr h f) id = none
                have h2 := hfo.w id hW
                rw [restr_get, if_neg (q3 id h2), if_neg (q2 id h2)]
              · cases hh : x.Hin id with
                | none => rfl
                | some r =>
                  exfalso
                  rcases hfo.r id (by rw [hh]; simp) with h | h
                  · exact q3 id (hfo.w id h) hm
                  · exact q4 id hm h
          · -- a new row
            rename_i hfit hc hfree
            split at hx <;> first | (cases hx; done) | skip
            rename_i hc1 hfree2 hnone
            have hc' : c1 = c + 1 := (nbeq_iff _ _).1 hc1
            subst hc'
            obtain ⟨rfl, rfl, rfl, hd, ht⟩ := finD_spec hx
            have hfit' : kindOf p.o.op ≠ .no ∧ kindOf p.o.op ≠ .rd := by
              constructor <;> intro hk <;> rw [hk] at hfit <;> unfold fits at hfit <;> simp only at hfit <;> split at hfit <;> first | (cases hfit; done) | (rw [hfit] at hc; cases hc)
            have hrc : hget (restr h f) c = none := by rw [restr_get, hnone]; simp
            refine ⟨⟨p.i, p.o, c, c + 1, v, tget t, fun id => id ∈ c :: f.2, hget (restr h f), hget h1⟩, rfl, rfl, rfl, rfl, by omega, ?_, ⟨fun _ _ => rfl, fun id hW => ?_, seen _ (fun id hm => List.mem_cons_of_mem _ hm)⟩, ?_, ?_, ⟨_, rfl, fun _ => ⟨fun _ h => h, fun id hne => ?_⟩⟩,
              ⟨fun hk => absurd hk hfit'.1, fun hk => absurd hk hfit'.2⟩, fun x g hxc hg hfo => ?_⟩
            · exact good_op hnum hcall (t := t) (hin := restr h f) (hout := h1) ho rfl rfl rfl hw hop hd
            · show hget h id = hget (restr h f) id
              rcases List.mem_cons.1 hW with rfl | hm
              · rw [hrc, hnone]
              · rw [restr_get, if_pos hm]
            · funext j; exact ht j
            · funext id
              rw [lift_get]
              unfold updH
              by_cases hm : id ∈ c :: f.2
              · rw [if_pos hm, if_pos (show id ∈ c :: f.2 from hm)]
              · rw [if_neg hm, if_neg (show ¬ id ∈ c :: f.2 from hm)]
            · by_cases hm : id ∈ f.2
              · exact .inl (List.mem_cons_of_mem _ hm)
              · right
                have : hget (restr h f) id ≠ none := hne
                rw [restr_get, if_neg hm] at this
                by_cases hm1 : id ∈ f.1
                · exact hm1
                · rw [if_neg hm1] at this; exact absurd rfl this
            · obtain ⟨g', q1, q2, q3, q4⟩ := free_spec hfree x.i hxc
              rw [hg] at q1; cases q1
              obtain ⟨g'', p1, p2, p3, p4⟩ := free_spec hfree2 x.i hxc
              rw [hg] at p1; cases p1
              have hcg : c ∉ g.2 := fun h => p3 c h (by simp)
              refine ⟨fun id hW hm => ?_, fun id hW => ?_, fun id hm => ?_⟩
              · rcases List.mem_cons.1 hm with rfl | hm
                · exact hcg (hfo.w _ hW)
                · exact q3 id (hfo.w id hW) hm
              · show hget (restr h f) id = none
                have h2 := hfo.w id hW
                rw [restr_get, if_neg (q3 id h2), if_neg (q2 id h2)]
              · cases hh : x.Hin id with
                | none => rfl
                | some r =>
                  exfalso
                  have hr := hfo.r id (by rw [hh]; simp)
                  rcases List.mem_cons.1 hm with rfl | hm
                  · rcases hr with h | h
                    · exact hcg (hfo.w _ h)
                    · exact p4 _ (by simp) h
                  · rcases hr with h | h
                    · exact q3 id (hfo.w id h) hm
                    · exact q4 id hm h
    · -- a call
      rename_i hcl
      split at hx <;> first | (cases hx; done) | skip
      rename_i ws rs hws hrs
      cases hop : opA X callF p.o.op (liftT t (looks ops p.o)) (sealR rs (hide ws h)) c with
      | bad => rw [hop] at hx; cases hx
      | val v h1 c1 =>
        rw [hop] at hx
        simp only at hx
        split at hx <;> first | (cases hx; done) | skip
        rename_i hle
        have hle' := (ble_iff _ _).1 hle
        obtain ⟨rfl, rfl, rfl, hd, ht⟩ := finD_spec hx
        have hk0 : kindOf p.o.op ≠ .no ∧ kindOf p.o.op ≠ .rd := by constructor <;> intro hk <;> rw [hk] at hcl <;> cases hcl
        have hin : ∀ id, hget (sealR rs (hide ws h)) id = if id ∈ ws then none else if id ∈ rs then (hget h id).map roRow else hget h id := by
          intro id
          rw [sealR_get, hide_get]
          by_cases h1 : id ∈ ws <;> by_cases h2 : id ∈ rs <;> simp [h1, h2]
        refine ⟨⟨p.i, p.o, c, c1, v, tget t, fun id => id ∉ ws ∧ id ∉ rs, hget (sealR rs (hide ws h)), hget h1⟩, rfl, rfl, rfl, rfl, hle', ?_, ⟨fun _ _ => rfl, fun id hW => ?_, fun id r hn hi => ?_⟩, ?_, ?_, ⟨_, rfl, fun hc => (by rw [hcl] at hc; cases hc)⟩,
          ⟨fun hk => absurd hk hk0.1, fun hk => absurd hk hk0.2⟩, fun x g hxc hg hfo => ?_⟩
        · exact good_op hnum hcall (t := t) (hin := sealR rs (hide ws h)) (hout := h1) ho rfl rfl rfl hw hop hd
        · show hget h id = hget (sealR rs (hide ws h)) id
          rw [hin, if_neg hW.1, if_neg hW.2]
        · have hi' : hget (sealR rs (hide ws h)) id = some r := hi
          rw [hin] at hi'
          split at hi'
          · cases hi'
          · rename_i hnw
            split at hi'
            · cases hh : hget h id with
              | none => rw [hh] at hi'; cases hi'
              | some r0 => rw [hh] at hi'; simp only [Option.map_some, Option.some.injEq] at hi'; exact ⟨r0, rfl, hi'.symm⟩
            · rename_i hnr
              exact absurd ⟨hnw, hnr⟩ hn
        · funext j; exact ht j
        · funext id
          rw [lift_get]
          unfold updH
          by_cases hm : id ∈ ws ++ rs
          · rw [if_pos hm, if_neg]
            rintro ⟨h1, h2⟩
            rcases List.mem_append.1 hm with h | h
            · exact h1 h
            · exact h2 h
          · rw [if_neg hm, if_pos]
            exact ⟨fun h => hm (List.mem_append.2 (.inl h)), fun h => hm (List.mem_append.2 (.inr h))⟩
        · obtain ⟨g1, q1, q2⟩ := writesOf_spec hws x.i hxc
          rw [hg] at q1; cases q1
          obtain ⟨g2, p1, p2⟩ := readsOf_spec hrs x.i hxc
          rw [hg] at p1; cases p1
          refine ⟨fun id hW hm => hm.1 (q2 id (hfo.w id hW)), fun id hW => ?_, fun id hm => ?_⟩
          · show hget (sealR rs (hide ws h)) id = none
            rw [hin, if_pos (q2 id (hfo.w id hW))]
          · cases hh : x.Hin id with
            | none => rfl
            | some r =>
              exfalso
              rcases hfo.r id (by rw [hh]; simp) with h | h
              · exact hm.1 (q2 id (hfo.w id h))
              · exact hm.2 (p2 id h)
end Go.Proofs.YtnnilbambpfhiaaGreatDoor.Ev
