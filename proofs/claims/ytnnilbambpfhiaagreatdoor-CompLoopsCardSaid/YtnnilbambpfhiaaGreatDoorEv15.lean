/-
  Regions that draw their order: each operation of the plan is one that may change places.
-/
import Derived.Test.YtnnilbambpfhiaaGreatDoorEv14
namespace Go.Proofs.YtnnilbambpfhiaaGreatDoor.Ev
open Go

theorem GF.weaken {P : Program} {E : Env} {w : World} {H : Nat → Option Row} {E' : Env} {w' : World} {H' : Nat → Option Row} {N N' : Nat → Prop} (g : GF P E w H E' w' H' N) (h : ∀ id, N id → N' id) : GF P E w H E' w' H' N' :=
  ⟨g.le, fun id x hx => (g.dom id x hx).imp (fun h => h) (h id), g.hr, g.size, g.keep, g.prov, g.tape, g.os, g.output⟩
theorem memN_iff (n : Nat) : ∀ l, memN n l = true ↔ n ∈ l
  | [] => by simp [show memN n [] = false from rfl]
  | x :: r => by
    have e : memN n (x :: r) = (match Nat.beq x n with | true => true | false => memN n r) := by
      show Bool.rec (motive := fun _ => Bool) (memN n r) true (Nat.beq x n) = _
      cases Nat.beq x n <;> rfl
    rw [e]
    cases h : Nat.beq x n with
    | true => simp [((nbeq_iff _ _).1 h).symm]
    | false =>
      have := (nbeq_false _ _).1 h
      simp only [memN_iff n r, List.mem_cons]
      exact ⟨.inr, fun h => h.resolve_left (fun e => this e.symm)⟩
theorem disj_iff : ∀ a l, disj a l = true ↔ ∀ x, x ∈ a → x ∉ l
  | [], l => by simp [show disj [] l = true from rfl]
  | x :: r, l => by
    have e : disj (x :: r) l = (match memN x l with | true => false | false => disj r l) := by
      show Bool.rec (motive := fun _ => Bool) (disj r l) false (memN x l) = _
      cases memN x l <;> rfl
    rw [e]
    cases h : memN x l with
    | true => have := (memN_iff x l).1 h; simp [this]
    | false =>
      have : x ∉ l := fun hx => by rw [(memN_iff x l).2 hx] at h; cases h
      simp only [disj_iff r l, List.mem_cons]
      constructor
      · rintro h y (rfl | hy)
        · exact this
        · exact h y hy
      · exact fun h y hy => h y (.inr hy)
theorem lift_get (h : Heap) (g : Heap) (id : Nat) : ∀ l, hget (lift h l g) id = if id ∈ l then hget h id else hget g id
  | [] => by simp [show lift h [] g = g from rfl]
  | x :: r => by
    rw [show lift h (x :: r) g = hset (lift h r g) x (hget h x) from rfl]
    by_cases e : id = x
    · subst e; simp [hget_hset]
    · rw [hget_hset_ne _ _ e, lift_get h g id r]; simp [e]
theorem hide_get (h : Heap) (id : Nat) : ∀ l, hget (hide l h) id = if id ∈ l then none else hget h id
  | [] => by simp [show hide [] h = h from rfl]
  | x :: r => by
    rw [show hide (x :: r) h = hset (hide r h) x none from rfl]
    by_cases e : id = x
    · subst e; simp [hget_hset]
    · rw [hget_hset_ne _ _ e, hide_get h id r]; simp [e]
theorem sealR_cons (x : Nat) (r : List Nat) (h : Heap) : sealR (x :: r) h = (match hget (sealR r h) x with | some y => hset (sealR r h) x (some (roRow y)) | none => sealR r h) := rfl
theorem sealR_get (h : Heap) (id : Nat) : ∀ l, hget (sealR l h) id = if id ∈ l then (hget h id).map roRow else hget h id
  | [] => by simp [show sealR [] h = h from rfl]
  | x :: r => by
    rw [sealR_cons]
    have ih := sealR_get h x r
    by_cases e : id = x
    · subst e
      cases hq : hget (sealR r h) id with
      | none =>
        simp only [hq]
        rw [hq] at ih
        have hn : hget h id = none := by
          split at ih
          · cases hh : hget h id with
            | none => rfl
            | some y => rw [hh] at ih; cases ih
          · exact ih.symm
        simp [hn]
      | some y =>
        simp only [hget_hset]
        rw [hq] at ih
        split at ih
        · cases hh : hget h id with
          | none => rw [hh] at ih; cases ih
          | some z => rw [hh] at ih; simp only [Option.map_some, Option.some.injEq] at ih; subst ih; simp [roRow]
        · rw [← ih]; simp
    · have ih' := sealR_get h id r
      cases hq : hget (sealR r h) x with
      | none => simp only [ih', List.mem_cons, e, false_or]
      | some y => simp only [hget_hset_ne _ _ e, ih', List.mem_cons, e, false_or]
theorem restr_get (h : Heap) (f : Foot) (id : Nat) : hget (restr h f) id = if id ∈ f.2 then hget h id else if id ∈ f.1 then (hget h id).map roRow else none := by
  unfold restr
  rw [lift_get, sealR_get, lift_get]
  by_cases h1 : id ∈ f.2
  · simp [h1]
  · by_cases h2 : id ∈ f.1
    · simp [h1, h2]
    · simp [h1, h2, hget_leaf]
theorem liftT_cons (t : Tmps) (i : Nat) (l : List Nat) : liftT t (i :: l) = (match tget t i with | some v => tset (liftT t l) i v | none => liftT t l) := rfl
theorem liftT_get (t : Tmps) (j : Nat) (v : AV) : ∀ l, tget (liftT t l) j = some v → j ∈ l ∧ tget t j = some v
  | [], h => by rw [show liftT t [] = Tr.leaf from rfl, tget_leaf] at h; cases h
  | i :: l, h => by
    rw [liftT_cons] at h
    cases hq : tget t i with
    | none =>
      rw [hq] at h
      obtain ⟨a, b⟩ := liftT_get t j v l h
      exact ⟨by simp [a], b⟩
    | some u =>
      rw [hq] at h
      simp only at h
      by_cases e : j = i
      · subst e
        rw [tget_tset] at h; cases h
        exact ⟨by simp, hq⟩
      · rw [tget_tset_ne _ _ e] at h
        obtain ⟨a, b⟩ := liftT_get t j v l h
        exact ⟨by simp [a], b⟩
theorem FR.lifted {E : Env} {nt : Nat} {T : Nat → Option AV} {t : Tmps} {a : Act} {l : List Nat} (hf : FF E nt T a) (hT : ∀ j, j ∈ l → T j = tget t j) : FR E nt (liftT t l) a :=
  ⟨fun i v hi => by
    obtain ⟨h1, h2⟩ := liftT_get t i v l hi
    exact hf.tmp i v (by rw [hT i h1]; exact h2), hf.size, hf.defers⟩

theorem FF.upd {E : Env} {nt : Nat} {T : Nat → Option AV} {a : Act} {it : Itm} (hf : FF E nt T a) (hd : ∀ d, it.o.dst = some d → d < nt) {r : Value} (hr : AVR E it.v r) : FF E nt (updT it T) (a.put it.o.dst r) := by
  cases hdst : it.o.dst with
  | none =>
    refine ⟨fun i v hi => ?_, hf.size, hf.defers⟩
    have : T i = some v := by simpa [updT, hdst] using hi
    exact hf.tmp i v this
  | some d =>
    have hlt := hd d hdst
    refine ⟨fun i v hi => ?_, by simp [Act.put, hf.size], hf.defers⟩
    by_cases e : d = i
    · subst e
      have : it.v = v := by simpa [updT, hdst] using hi
      subst this
      simpa [Act.put, hf.size, hlt] using hr
    · have : T i = some v := by simpa [updT, hdst, e] using hi
      have := hf.tmp i v this
      simpa [Act.put, Array.getElem?_setIfInBounds_ne e] using this

/-- an operation that is done -/
theorem good_op {X : Ctx} {callF : CallF} (hnum : NoNum X.P) (hcall : CallOk X callF) {nt : Nat} {ops : Array Oper} {it : Itm} {t : Tmps} {hin hout : Heap} (ho : ops[it.i]? = some it.o) (hT : it.Tin = tget t) (hHin : it.Hin = hget hin) (hHout : it.Hout = hget hout)
    (hw : wantedA (guardOf ops it.o) (liftT t (looks ops it.o)) = some true) (hx : opA X callF it.o.op (liftT t (looks ops it.o)) hin it.c = .val it.v hout it.c1) (hd : ∀ d, it.o.dst = some d → d < nt) : Good X nt ops it := by
  refine ⟨ho, fun E w a T H next Q he hf hr happ hfresh hk => ?_⟩
  have hFR : FR E nt (liftT t (looks ops it.o)) a := FR.lifted hf (fun j hj => by rw [happ.looks j hj, hT])
  have hin' : HR X.P E hin w := by
    refine ⟨fun id r hi => ?_, fun id id' r r' b κ κ' h1 h2 h3 h4 => ?_⟩
    · rw [← hHin] at hi
      by_cases hW : it.W id
      · exact hr.row id r (by rw [happ.own id hW]; exact hi)
      · obtain ⟨r0, h1, h2⟩ := happ.seen id r hW hi
        obtain ⟨b, κ, h3, h4⟩ := hr.row id r0 h1
        refine ⟨b, κ, h3, ?_⟩
        subst h2
        obtain ⟨pre, rest, fr, q1, q2, q3, q4, q5⟩ := h4.at_
        exact ⟨pre, rest, fr, q1, q2, fun e => (by cases e), q4, q5⟩
    · have al : ∀ i r, hget hin i = some r → ∃ r0, H i = some r0 := fun i r hi => by
        rw [← hHin] at hi
        by_cases hW : it.W i
        · exact ⟨r, by rw [happ.own i hW]; exact hi⟩
        · obtain ⟨r0, h1, _⟩ := happ.seen i r hW hi; exact ⟨r0, h1⟩
      obtain ⟨r1, q1⟩ := al id r h1
      obtain ⟨r2, q2⟩ := al id' r' h2
      exact hr.inj id id' r1 r2 b κ κ' q1 q2 h3 h4
  unfold wpOp
  rw [ho]
  simp only
  rw [if_pos (wantedA_sound hFR ops it.o hw)]
  left
  refine opA_wp hnum hcall he hin' hFR hx hfresh next Q ?_
  intro r w' E' hv hg
  have own : ∀ id r0, hget hin id = some r0 → r0.ro = false → it.W id ∧ H id = some r0 := fun id r0 hi hro => by
    rw [← hHin] at hi
    by_cases hW : it.W id
    · exact ⟨hW, by rw [happ.own id hW]; exact hi⟩
    · obtain ⟨r1, _, h2⟩ := happ.seen id r0 hW hi
      subst h2; cases hro
  have hoff : ∀ b, OffF E H b → Off E hin b := fun b hb id r0 κ hi hro hs => hb id r0 κ (own id r0 hi hro).2 hro hs
  have hupd : ∀ id, it.W id → updH it H id = hget hout id := fun id hW => by unfold updH; rw [if_pos hW, hHout]
  have hupd' : ∀ id, ¬ it.W id → updH it H id = H id := fun id hW => by unfold updH; rw [if_neg hW]
  have hblk : ∀ id r0 b κ, ¬ it.W id → H id = some r0 → E.σ id = some (b, κ) → w'.heap[b]? = w.heap[b]? := fun id r0 b κ hW hi hs => by
    refine hg.keep b (hr.lt hi hs) fun id' r' κ' hi' hro' hs' => ?_
    obtain ⟨hW', hH'⟩ := own id' r' hi' hro'
    have := hr.inj id id' r0 r' b κ κ' hi hH' hs hs'
    subst this; exact hW hW'
  refine hk _ w' E' ((⟨hf.tmp, hf.size, hf.defers⟩ : FF E nt T a).mono' hg.le |>.upd hd hv) ⟨hg.le, hg.dom, ⟨fun id r0 hi => ?_, fun id id' r1 r2 b κ κ' h1 h2 h3 h4 => ?_⟩, hg.size, fun b hb ho => hg.keep b hb (hoff b ho), fun id r0 b κ hi hs => ?_, hg.tape, hg.os, hg.output⟩
  · by_cases hW : it.W id
    · rw [hupd id hW] at hi; exact hg.hr.row id r0 hi
    · rw [hupd' id hW] at hi
      obtain ⟨b, κ, h1, h2⟩ := hr.row id r0 hi
      exact ⟨b, κ, hg.le.1 _ _ h1, (h2.mono hg.le).of_block (hblk id r0 b κ hW hi h1)⟩
  · have old : ∀ i r0 b κ, ¬ it.W i → H i = some r0 → E'.σ i = some (b, κ) → E.σ i = some (b, κ) := fun i r0 b κ _ hi hs => by
      obtain ⟨b', κ', h1, _⟩ := hr.row i r0 hi
      have := hg.le.1 _ _ h1
      rw [hs] at this; cases this; exact h1
    have cross : ∀ i j r1 r2 b κ κ', it.W i → ¬ it.W j → hget hout i = some r1 → H j = some r2 → E'.σ i = some (b, κ) → E'.σ j = some (b, κ') → False := by
      intro i j r1 r2 b κ κ' hWi hWj hi hj hsi hsj
      have hsj' := old j r2 b κ' hWj hj hsj
      have hlt := hr.lt hj hsj'
      rcases hg.prov i r1 b κ hi hsi with h | ⟨id0, r0, κ0, q1, q2, _, q4⟩
      · omega
      · rcases q4 with e | e
        · subst e
          have hH : H id0 = some r0 := by rw [happ.own id0 hWi, hHin]; exact q1
          have := hr.inj id0 j r0 r2 b κ0 κ' hH hj q2 hsj'
          subst this; exact hWj hWi
        · obtain ⟨hW0, hH⟩ := own id0 r0 q1 e
          have := hr.inj id0 j r0 r2 b κ0 κ' hH hj q2 hsj'
          subst this; exact hWj hW0
    by_cases hW1 : it.W id <;> by_cases hW2 : it.W id'
    · rw [hupd id hW1] at h1; rw [hupd id' hW2] at h2
      exact hg.hr.inj id id' r1 r2 b κ κ' h1 h2 h3 h4
    · rw [hupd id hW1] at h1; rw [hupd' id' hW2] at h2
      exact (cross id id' r1 r2 b κ κ' hW1 hW2 h1 h2 h3 h4).elim
    · rw [hupd' id hW1] at h1; rw [hupd id' hW2] at h2
      exact (cross id' id r2 r1 b κ' κ hW2 hW1 h2 h1 h4 h3).elim
    · rw [hupd' id hW1] at h1; rw [hupd' id' hW2] at h2
      exact hr.inj id id' r1 r2 b κ κ' h1 h2 (old id r1 b κ hW1 h1 h3) (old id' r2 b κ' hW2 h2 h4)
  · by_cases hW : it.W id
    · rw [hupd id hW] at hi
      rcases hg.prov id r0 b κ hi hs with h | ⟨id0, r1, κ0, q1, q2, q3, q4⟩
      · exact .inl h
      · by_cases hW0 : it.W id0
        · exact .inr ⟨id0, r1, κ0, by rw [happ.own id0 hW0, hHin]; exact q1, q2, q3, q4⟩
        · exfalso
          rcases q4 with e | e
          · subst e; exact hW0 hW
          · exact hW0 (own id0 r1 q1 e).1
    · rw [hupd' id hW] at hi
      obtain ⟨b', κ', h1, _⟩ := hr.row id r0 hi
      have := hg.le.1 _ _ h1
      rw [hs] at this; cases this
      exact .inr ⟨id, r0, κ, hi, h1, fun e => e, .inl rfl⟩
/-- an operation that is passed over -/
theorem good_skip {X : Ctx} {nt : Nat} {ops : Array Oper} {it : Itm} {t : Tmps} (ho : ops[it.i]? = some it.o) (hT : it.Tin = tget t) (hW : ∀ id, ¬ it.W id) (hv : it.v = .undef)
    (hw : wantedA (guardOf ops it.o) (liftT t (looks ops it.o)) = some false) (hd : ∀ d, it.o.dst = some d → d < nt) : Good X nt ops it := by
  refine ⟨ho, fun E w a T H next Q he hf hr happ hfresh hk => ?_⟩
  have hFR : FR E nt (liftT t (looks ops it.o)) a := FR.lifted hf (fun j hj => by rw [happ.looks j hj, hT])
  unfold wpOp
  rw [ho]
  simp only
  rw [if_neg (by rw [wantedA_sound hFR ops it.o hw]; simp)]
  have hH : updH it H = H := by funext id; unfold updH; rw [if_neg (hW id)]
  refine hk _ w E (hf.upd hd (by rw [hv]; exact AVR.undef E)) ?_
  rw [hH]
  exact (GF.refl hr).weaken fun id h => h.elim
end Go.Proofs.YtnnilbambpfhiaaGreatDoor.Ev
