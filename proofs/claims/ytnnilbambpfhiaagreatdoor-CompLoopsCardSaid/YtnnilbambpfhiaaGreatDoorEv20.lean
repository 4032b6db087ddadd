/-
  Calls that are known: there and back again.
-/
import Derived.Test.YtnnilbambpfhiaaGreatDoorEv19
namespace Go.Proofs.YtnnilbambpfhiaaGreatDoor.Ev
open Go

/-! There. -/
/-- the rows of the pattern stand in the heap -/
def RowsIn (P : Program) (h : Heap) (m : MS) (l : Rows_) : Prop := ∀ x, x ∈ l → ∃ j r, sLook m.s x.1 = some j ∧ hget h j = some r ∧ (x.2.ro = false → r.ro = false) ∧
    ∀ E w b κ, RowR P E w r b κ → RowR P (envT E m) w x.2 b κ
theorem RowsIn.of_match {P : Program} {h : Heap} {l : Rows_} {m m' M : MS} (hx : matchH h l m = some m') (hM : m'.le M) : RowsIn P h M l := fun x hm =>
  let ⟨j, r, h1, h2, h3, h4⟩ := (matchH_ok (P := P) hx).2 x hm
  ⟨j, r, hM.s _ _ h1, h2, h3, fun E => h4 M E hM⟩
theorem there_hr {P : Program} {E : Env} {h : Heap} {w : World} {m : MS} {l : Rows_} (hr : HR P E h w) (hin : RowsIn P h m l) (hinj : ∀ {i i' j : Nat}, sLook m.s i = some j → sLook m.s i' = some j → i = i') :
    HR P (envT E m) (trieOf l) w := by
  refine ⟨fun i r hi => ?_, fun i i' r r' b κ κ' hi hi' hs hs' => ?_⟩
  · obtain ⟨j, x, h1, h2, _, h4⟩ := hin _ (trieOf_get i r l hi)
    obtain ⟨b, κ, h5, h6⟩ := hr.row j x h2
    exact ⟨b, κ, by rw [envT_σ h1]; exact h5, h4 E w b κ h6⟩
  · obtain ⟨j, x, h1, h2, _, _⟩ := hin _ (trieOf_get i r l hi)
    obtain ⟨j', x', h1', h2', _, _⟩ := hin _ (trieOf_get i' r' l hi')
    rw [envT_σ h1] at hs; rw [envT_σ h1'] at hs'
    have := hr.inj j j' x x' b κ κ' h2 h2' hs hs'
    subst this
    exact hinj h1 h1'
theorem there_fresh {E : Env} {m : MS} {c0 c1 : Nat} (hlt : ∀ {i j : Nat}, sLook m.s i = some j → i < c0) : Fresh (envT E m) c0 c1 := by
  intro i h1 _
  cases hq : sLook m.s i with
  | none => simp [envT, hq]
  | some j => have := hlt hq; omega

/-! And back. -/
theorem killW_cons (s : Subst) (x : Nat × Row) (l : Rows_) (h : Heap) : killW s (x :: l) h = (match x.2.ro with
      | true => killW s l h
      | false => (match sLook s x.1 with
        | none => none
        | some j => killW s l (hset h j none))) := rfl
theorem killW_get {s : Subst} : ∀ {l : Rows_} {h h1 : Heap}, killW s l h = some h1 → ∀ j r, hget h1 j = some r → hget h j = some r ∧ ∀ x, x ∈ l → x.2.ro = false → sLook s x.1 ≠ some j
  | [], h, h1, hk, j, r, hj => by
    have : some h = some h1 := hk
    cases this
    exact ⟨hj, fun _ h => by cases h⟩
  | y :: l, h, h1, hk, j, r, hj => by
    rw [killW_cons] at hk
    split at hk
    · rename_i hy
      obtain ⟨k1, k2⟩ := killW_get hk j r hj
      refine ⟨k1, fun x hx hro => ?_⟩
      rcases List.mem_cons.1 hx with rfl | hx
      · rw [hy] at hro; cases hro
      · exact k2 x hx hro
    · split at hk <;> first | (cases hk; done) | skip
      rename_i i hi
      obtain ⟨k1, k2⟩ := killW_get hk j r hj
      have hne : j ≠ i := fun e => by subst e; rw [hget_hset] at k1; cases k1
      rw [hget_hset_ne _ _ hne] at k1
      refine ⟨k1, fun x hx hro => ?_⟩
      rcases List.mem_cons.1 hx with rfl | hx
      · rw [hi]; intro e; cases e; exact hne rfl
      · exact k2 x hx hro
theorem layH_cons (q : RN) (x : Nat × Row) (l : Rows_) (h : Heap) : layH q (x :: l) h = (match rnm q x.1 with
      | none => none
      | some j => (match renR q x.2 with
        | none => none
        | some r => layH q l (hset h j (some r)))) := rfl
theorem layH_get {q : RN} : ∀ {l : Rows_} {h h1 : Heap}, layH q l h = some h1 → ∀ j r, hget h1 j = some r → (∃ x, x ∈ l ∧ rnm q x.1 = some j ∧ renR q x.2 = some r) ∨ hget h j = some r
  | [], h, h1, hk, j, r, hj => by
    have : some h = some h1 := hk
    cases this
    exact .inr hj
  | y :: l, h, h1, hk, j, r, hj => by
    rw [layH_cons] at hk
    split at hk <;> first | (cases hk; done) | skip
    rename_i i hi
    split at hk <;> first | (cases hk; done) | skip
    rename_i y' hy
    rcases layH_get hk j r hj with ⟨x, h1, h2, h3⟩ | h
    · exact .inl ⟨x, List.mem_cons_of_mem _ h1, h2, h3⟩
    · by_cases e : j = i
      · subst e; rw [hget_hset] at h; cases h
        exact .inl ⟨y, List.mem_cons_self .., hi, hy⟩
      · rw [hget_hset_ne _ _ e] at h; exact .inr h

/-- the caller's numbers behind the call -/
def envB (E E' : Env) (c0 c c' : Nat) : Env := ⟨fun j => if c ≤ j ∧ j < c' then E'.σ (c0 + (j - c)) else E.σ j, E.ρ⟩
theorem envB_new {E E' : Env} {c0 c c' j : Nat} (h1 : c ≤ j) (h2 : j < c') : (envB E E' c0 c c').σ j = E'.σ (c0 + (j - c)) := by simp [envB, h1, h2]
theorem envB_old {E E' : Env} {c0 c c' j : Nat} (h : ¬ (c ≤ j ∧ j < c')) : (envB E E' c0 c c').σ j = E.σ j := by simp only [envB, if_neg h]

/-- What carries over. -/
structure Back (E' EB : Env) (q : RN) : Prop where
  num : ∀ i j x, rnm q i = some j → E'.σ i = some x → EB.σ j = some x
  lin : ∀ n n', subL q.m.th n = some n' → n'.den EB.ρ = n.den E'.ρ
theorem dens_mulTs (ρ : Nat → Int) (k : Int) : ∀ t, dens ρ (mulTs k t) = dens ρ t * k
  | [] => by simp [mulTs, dens]
  | (v, j) :: r => by
    simp only [mulTs, dens, dens_mulTs ρ k r]
    rw [show Int.mul j k = j * k from rfl, Int.add_mul, Int.mul_right_comm]
theorem den_mul (ρ : Nat → Int) (k : Int) (L : Lin) : (L.mul k).den ρ = k * L.den ρ := by
  cases L with
  | c n => show n * k = k * n; exact Int.mul_comm _ _
  | l n t =>
    simp only [Lin.mul, Lin.den, dens_mulTs]
    rw [show Int.mul n k = n * k from rfl, ← Int.add_mul, Int.mul_comm]
theorem subTs_ok {E : Env} {m : MS} : ∀ {t : List (Nat × Int)} {M : Lin}, subTs m.th t = some M → M.den E.ρ = dens (envT E m).ρ t
  | [], M, h => by cases h; rfl
  | (v, k) :: r, M, h => by
    simp only [subTs] at h
    split at h <;> cases h
    rename_i L N h1 h2
    rw [den_add, den_mul, subTs_ok h2]
    simp only [dens, envT_ρ h1]
theorem subL_ok {E : Env} {m : MS} {n n' : Lin} (h : subL m.th n = some n') : n'.den E.ρ = n.den (envT E m).ρ := by
  cases n with
  | c x => cases h; rfl
  | l x t =>
    simp only [subL] at h
    split at h <;> cases h
    rename_i M h1
    rw [den_add, subTs_ok h1]; rfl
theorem renP_cons (q : RN) (x : Nat × Nat) (l : List (Nat × Nat)) : renP q (x :: l) = (match rnm q x.1 with | some j => (match renP q l with | some r => some ((j, x.2) :: r) | none => none) | none => none) := rfl
theorem renL_cons (q : RN) (x : SC) (l : List SC) : renL q (x :: l) = (match renS q x with | some y => (match renL q l with | some r => some (y :: r) | none => none) | none => none) := rfl
theorem ren1s_cons (q : RN) (x : V1) (l : List V1) : ren1s q (x :: l) = (match ren1 q x with | some y => (match ren1s q l with | some r => some (y :: r) | none => none) | none => none) := rfl
section
variable {E' EB : Env} {q : RN}
theorem Back.renP (hb : Back E' EB q) : ∀ {l l' : List (Nat × Nat)}, renP q l = some l' → ∀ vs, All2 (PR E') l vs → All2 (PR EB) l' vs
  | [], l', h, vs, hv => by
    have : some [] = some l' := h
    cases this; cases hv; exact .nil
  | x :: l, l', h, vs, hv => by
    rw [renP_cons] at h
    split at h <;> first | (cases h; done) | skip
    rename_i j h1
    split at h <;> cases h
    rename_i r h2
    cases hv with
    | cons hp ht =>
      obtain ⟨b, κ, h3, h4⟩ := hp
      exact .cons ⟨b, κ, hb.num _ _ _ h1 h3, h4⟩ (hb.renP h2 _ ht)
theorem Back.renS (hb : Back E' EB q) {a b : SC} (h : renS q a = some b) {v : Value} (hv : SR E' a v) : SR EB b v := by
  cases hv <;> simp only [Ev.renS] at h
  · cases h; exact .bool _
  · split at h <;> cases h
    rename_i h1
    rw [← hb.lin _ _ h1]
    exact .int _ _
  · cases h; exact .float _ _
  · cases h; exact .cplx _ _ _
  · cases h; exact .str _
  · cases h; exact .nilptr
  · rename_i hσ
    split at h <;> cases h
    rename_i h1
    exact .ptr (hb.num _ _ _ h1 hσ)
  · cases h; exact .nilslice
  · rename_i hσ
    split at h <;> cases h
    rename_i h1
    exact .slice (hb.num _ _ _ h1 hσ)
  · cases h; exact .nilfunc
  · rename_i hl
    split at h <;> cases h
    rename_i h1
    exact .func (hb.renP h1 _ hl)
theorem Back.renL (hb : Back E' EB q) : ∀ {l l' : List SC}, renL q l = some l' → ∀ vs, All2 (SR E') l vs → All2 (SR EB) l' vs
  | [], l', h, vs, hv => by
    have : some [] = some l' := h
    cases this; cases hv; exact .nil
  | x :: l, l', h, vs, hv => by
    rw [renL_cons] at h
    split at h <;> first | (cases h; done) | skip
    rename_i j h1
    split at h <;> cases h
    rename_i r h2
    cases hv with
    | cons hp ht => exact .cons (hb.renS h1 hp) (hb.renL h2 _ ht)
theorem Back.ren1 (hb : Back E' EB q) {a b : V1} (h : ren1 q a = some b) {v : Value} (hv : V1R E' a v) : V1R EB b v := by
  cases hv with
  | sc hs =>
    simp only [Ev.ren1] at h
    split at h <;> cases h
    rename_i h1; exact .sc (hb.renS h1 hs)
  | agg hs =>
    simp only [Ev.ren1] at h
    split at h <;> cases h
    rename_i h1; exact .agg (hb.renL h1 _ hs)
theorem Back.ren1s (hb : Back E' EB q) : ∀ {l l' : List V1}, ren1s q l = some l' → ∀ vs, All2 (V1R E') l vs → All2 (V1R EB) l' vs
  | [], l', h, vs, hv => by
    have : some [] = some l' := h
    cases this; cases hv; exact .nil
  | x :: l, l', h, vs, hv => by
    rw [ren1s_cons] at h
    split at h <;> first | (cases h; done) | skip
    rename_i j h1
    split at h <;> cases h
    rename_i r h2
    cases hv with
    | cons hp ht => exact .cons (hb.ren1 h1 hp) (hb.ren1s h2 _ ht)
theorem Back.renV (hb : Back E' EB q) {a b : AV} (h : renV q a = some b) {v : Value} (hv : AVR E' a v) : AVR EB b v := by
  cases hv with
  | one hs =>
    simp only [Ev.renV] at h
    split at h <;> cases h
    rename_i h1; exact .one (hb.ren1 h1 hs)
  | tup hs =>
    simp only [Ev.renV] at h
    split at h <;> cases h
    rename_i h1; exact .tup (hb.ren1s h1 _ hs)
theorem Back.renR (hb : Back E' EB q) {P : Program} {a b : Row} (h : renR q a = some b) {w : World} {x κ : Nat} (hv : RowR P E' w a x κ) : RowR P EB w b x κ := by
  unfold Ev.renR at h
  split at h <;> cases h
  rename_i cs h1
  obtain ⟨pre, rest, fr, k1, k2, k3⟩ := hv.at_
  exact ⟨pre, rest, fr, k1, hb.renL h1 _ k2, k3⟩
end
theorem renR_ro {q : RN} {a b : Row} (h : renR q a = some b) : b.ro = a.ro := by
  unfold renR at h
  split at h <;> cases h
  rfl

theorem goes_back {P : Program} {E : Env} {w : World} {h : Heap} {c : Nat} {m : MS} {hin hout : Rows_} {c0 c1 : Nat} (hr : HR P E h w) (hrows : RowsIn P h m hin) (hlt : ∀ {i j : Nat}, sLook m.s i = some j → i < c0)
    (hf : Fresh E c (c + (c1 - c0))) {E' : Env} {w' : World} {h' : Heap} (g : Goes P (envT E m) w (trieOf hin) c0 E' w' h' c1) (hho : ∀ x, x ∈ hout → hget h' x.1 = some x.2)
    {h1 h2 : Heap} (hk : killW m.s hin h = some h1) (hl : layH ⟨m, c0, c⟩ hout h1 = some h2) :
    Back E' (envB E E' c0 c (c + (c1 - c0))) ⟨m, c0, c⟩ ∧ Goes P E w h c (envB E E' c0 c (c + (c1 - c0))) w' h2 (c + (c1 - c0)) := by
  have hold : ∀ {j x}, E.σ j = some x → ¬ (c ≤ j ∧ j < c + (c1 - c0)) := fun {j x} hx hn => by rw [hf j hn.1 hn.2] at hx; cases hx
  have hback : Back E' (envB E E' c0 c (c + (c1 - c0))) ⟨m, c0, c⟩ := by
    refine ⟨fun i j x hi hx => ?_, fun n n' hn => ?_⟩
    · unfold rnm at hi
      simp only at hi
      cases hq : Nat.blt i c0 with
      | true =>
        rw [hq] at hi
        simp only at hi
        rcases g.dom i x hx with h | h
        · rw [envT_σ hi] at h
          rw [envB_old (hold h)]; exact h
        · have := (blt_iff _ _).1 hq; omega
      | false =>
        rw [hq] at hi
        simp only [Option.some.injEq] at hi
        have hge := (blt_false _ _).1 hq
        have hj : j = c + (i - c0) := hi.symm
        rcases g.dom i x hx with h | h
        · cases hs : sLook m.s i with
          | none => simp [envT, hs] at h
          | some k => have := hlt hs; omega
        · rw [envB_new (by omega) (by omega), show c0 + (j - c) = i by omega]; exact hx
    · have : n'.den E.ρ = n.den (envT E m).ρ := subL_ok hn
      rw [← g.le.2] at this
      exact this
  refine ⟨hback, ?_⟩
  have himg : ∀ {x : Nat × Row} {j : Nat}, x ∈ hout → rnm ⟨m, c0, c⟩ x.1 = some j → ∃ b κ, E'.σ x.1 = some (b, κ) ∧ (envB E E' c0 c (c + (c1 - c0))).σ j = some (b, κ) ∧ RowR P E' w' x.2 b κ := fun {x j} hx hj => by
    obtain ⟨b, κ, k1, k2⟩ := g.hr.row _ _ (hho x hx)
    exact ⟨b, κ, k1, hback.num _ _ _ hj k1, k2⟩
  have hprov : ∀ {x : Nat × Row} {j b κ : Nat}, x ∈ hout → rnm ⟨m, c0, c⟩ x.1 = some j → E'.σ x.1 = some (b, κ) → w.heap.size ≤ b ∨
      ∃ y j0 r0 κ0, y ∈ hin ∧ sLook m.s y.1 = some j0 ∧ hget h j0 = some r0 ∧ E.σ j0 = some (b, κ0) ∧ (y.2.ro = false → r0.ro = false) ∧ (x.2.ro = false → y.2.ro = false) ∧ (j0 = j ∨ y.2.ro = false) := fun {x j b κ} hx hj hs => by
    rcases g.prov _ _ b κ (hho x hx) hs with h | ⟨i0, y, κ0, k1, k2, k3, k4⟩
    · exact .inl h
    · have hm := trieOf_get _ _ _ k1
      obtain ⟨j0, r0, e1, e2, e3, _⟩ := hrows _ hm
      simp only at e1 e3
      rw [envT_σ e1] at k2
      refine .inr ⟨_, j0, r0, κ0, hm, e1, e2, k2, e3, k3, ?_⟩
      rcases k4 with e | e
      · left
        unfold rnm at hj
        have : i0 < c0 := hlt e1
        simp only [← e, (blt_iff _ _).2 this] at hj
        rw [e1] at hj
        exact Option.some.inj hj
      · exact .inr e
  have hcase : ∀ {j r}, hget h2 j = some r → (∃ x, x ∈ hout ∧ rnm ⟨m, c0, c⟩ x.1 = some j ∧ renR ⟨m, c0, c⟩ x.2 = some r) ∨ (hget h j = some r ∧ ∀ x, x ∈ hin → x.2.ro = false → sLook m.s x.1 ≠ some j) := fun {j r} hj =>
    (layH_get hl j r hj).imp (fun h => h) fun h => killW_get hk j r h
  have hb_old : ∀ {j r}, hget h j = some r → ∃ b κ, E.σ j = some (b, κ) ∧ (envB E E' c0 c (c + (c1 - c0))).σ j = some (b, κ) ∧ RowR P E w r b κ := fun {j r} hj => by
    obtain ⟨b, κ, k1, k2⟩ := hr.row j r hj
    exact ⟨b, κ, k1, by rw [envB_old (hold k1)]; exact k1, k2⟩
  have hle : E.le (envB E E' c0 c (c + (c1 - c0))) := ⟨fun j x hx => by rw [envB_old (hold hx)]; exact hx, rfl⟩
  refine ⟨hle, Nat.le_add_right _ _, fun j x hx => ?_, ⟨fun j r hj => ?_, fun j j' r r' b κ κ' hj hj' hs hs' => ?_⟩, g.size, fun b hb ho => g.keep b hb fun i r κ hi hro hs => ?_, fun j r b κ hj hs => ?_, g.tape, g.os, g.output⟩
  · by_cases hn : c ≤ j ∧ j < c + (c1 - c0)
    · exact .inr hn
    · rw [envB_old hn] at hx; exact .inl hx
  · rcases hcase hj with ⟨x, hx, k1, k2⟩ | ⟨k1, k2⟩
    · obtain ⟨b, κ, _, e2, e3⟩ := himg hx k1
      exact ⟨b, κ, e2, hback.renR k2 e3⟩
    · obtain ⟨b, κ, e1, e2, e3⟩ := hb_old k1
      refine ⟨b, κ, e2, (e3.mono hle).of_block (g.keep b e3.lt fun i r' κ' hi hro hs => ?_)⟩
      obtain ⟨j', x', h1', h2', _, _⟩ := hrows _ (trieOf_get i r' hin hi)
      simp only at h1'
      rw [envT_σ h1'] at hs
      have := hr.inj j' j _ _ b _ _ h2' k1 hs e1
      subst this
      exact k2 _ (trieOf_get i r' hin hi) hro h1'
  · have mixed : ∀ {j j' : Nat} {r r' : Row} {κ κ' : Nat} {x : Nat × Row}, x ∈ hout → rnm ⟨m, c0, c⟩ x.1 = some j → renR ⟨m, c0, c⟩ x.2 = some r → hget h j' = some r' → (∀ x, x ∈ hin → x.2.ro = false → sLook m.s x.1 ≠ some j') →
        (envB E E' c0 c (c + (c1 - c0))).σ j = some (b, κ) → (envB E E' c0 c (c + (c1 - c0))).σ j' = some (b, κ') → j = j' := by
      intro j j' r r' κ κ' x hx k1 k2 k3 k4 hs hs'
      obtain ⟨b1, κ1, e1, e2, e3⟩ := himg hx k1
      rw [e2] at hs; cases hs
      obtain ⟨b2, κ2, f1, f2, f3⟩ := hb_old k3
      rw [f2] at hs'; cases hs'
      rcases hprov hx k1 e1 with h | ⟨y, j0, r0, κ0, p1, p2, p3, p4, p5, p6, p7⟩
      · have := f3.lt; omega
      · have := hr.inj j0 j' _ _ b _ _ p3 k3 p4 f1
        rcases p7 with e | e
        · rw [← e]; exact this
        · subst this; exact absurd p2 (k4 y p1 e)
    rcases hcase hj with ⟨x, hx, k1, k2⟩ | ⟨k1, k2⟩ <;> rcases hcase hj' with ⟨x', hx', k1', k2'⟩ | ⟨k1', k2'⟩
    · obtain ⟨b1, κ1, e1, e2, e3⟩ := himg hx k1
      obtain ⟨b2, κ2, f1, f2, f3⟩ := himg hx' k1'
      rw [e2] at hs; cases hs
      rw [f2] at hs'; cases hs'
      have := g.hr.inj _ _ _ _ b κ κ' (hho x hx) (hho x' hx') e1 f1
      rw [this, k1'] at k1
      exact (Option.some.inj k1).symm
    · exact mixed hx k1 k2 k1' k2' hs hs'
    · exact (mixed hx' k1' k2' k1 k2 hs' hs).symm
    · obtain ⟨b1, κ1, e1, e2, e3⟩ := hb_old k1
      obtain ⟨b2, κ2, f1, f2, f3⟩ := hb_old k1'
      rw [e2] at hs; cases hs
      rw [f2] at hs'; cases hs'
      exact hr.inj _ _ _ _ b κ κ' k1 k1' e1 f1
  · obtain ⟨j', x', h1', h2', h3', _⟩ := hrows _ (trieOf_get i r hin hi)
    simp only at h1' h3'
    rw [envT_σ h1'] at hs
    exact ho j' x' κ h2' (h3' hro) hs
  · rcases hcase hj with ⟨x, hx, k1, k2⟩ | ⟨k1, k2⟩
    · obtain ⟨b1, κ1, e1, e2, e3⟩ := himg hx k1
      rw [e2] at hs; cases hs
      rcases hprov hx k1 e1 with h | ⟨y, j0, r0, κ0, p1, p2, p3, p4, p5, p6, p7⟩
      · exact .inl h
      · refine .inr ⟨j0, r0, κ0, p3, p4, fun e => p5 (p6 (by rw [← renR_ro k2]; exact e)), ?_⟩
        rcases p7 with e | e
        · exact .inl e
        · exact .inr (p5 e)
    · obtain ⟨b1, κ1, e1, e2, e3⟩ := hb_old k1
      rw [e2] at hs; cases hs
      exact .inr ⟨j, r, κ, k1, e1, fun e => e, .inl rfl⟩

/-! The calls that are known. -/
def MemoOk (P : Program) (G : Nat) (m : Memo) : Prop := (∃ fn, P.funcs[m.f]? = some fn ∧ fn.body.isSome = true) ∧
  ∀ E w vs, EOk ⟨P, G, m.B⟩ E → HR P E (trieOf m.hin) w → All2 (V1R E) m.args vs → Fresh E m.c0 m.c1 →
    Calls P m.f vs.toArray w fun e w' => ∃ r E' h', e = .returned r ∧ AVR E' m.out r ∧ (∀ x, x ∈ m.hout → hget h' x.1 = some x.2) ∧ Goes P E w (trieOf m.hin) m.c0 E' w' h' m.c1
theorem memo_of_call {P : Program} {G : Nat} {m : Memo} {callF : CallF} (hcall : CallOk ⟨P, G, m.B⟩ callF) (h : memoIs m (callF m.f m.args (trieOf m.hin) m.c0) = true) : MemoOk P G m := by
  cases hq : callF m.f m.args (trieOf m.hin) m.c0 with
  | bad => rw [hq] at h; cases h
  | val v h' c' =>
    rw [hq] at h
    simp only [memoIs] at h
    split at h <;> first | (cases h; done) | skip
    rename_i h1 h2 h3
    obtain ⟨k1, k2⟩ := hcall _ _ _ _ _ _ _ hq
    refine ⟨k1, fun E w vs he hr hv hf => ?_⟩
    have e1 := avEq_eq h1
    have e2 := (nbeq_iff _ _).1 h2
    subst e1; subst e2
    refine Calls.mono (k2 E w vs he hr hv hf) ?_
    rintro e w' ⟨r, E', p1, p2, p3⟩
    exact ⟨r, E', h', p1, p2, rowsEq_get h3, p3⟩
theorem useMemo_ok {X : Ctx} {m : Memo} (hm : MemoOk X.P X.G m) {args : List V1} {h : Heap} {c : Nat} {v : AV} {h' : Heap} {c' : Nat} (hx : useMemo X m args h c = .val v h' c') :
    ∀ E w vs, EOk X E → HR X.P E h w → All2 (V1R E) args vs → Fresh E c c' →
    Calls X.P m.f vs.toArray w fun e w' => ∃ r E', e = .returned r ∧ AVR E' v r ∧ Goes X.P E w h c E' w' h' c' := by
  intro E w vs he hr hv hf
  unfold useMemo at hx
  split at hx <;> first | (cases hx; done) | skip
  rename_i s0 h0
  split at hx <;> first | (cases hx; done) | skip
  rename_i s1 h1
  split at hx <;> first | (cases hx; done) | skip
  rename_i h2 h3
  split at hx <;> first | (cases hx; done) | skip
  rename_i hk h4
  split at hx <;> first | (cases hx; done) | skip
  rename_i hl v' h5 h6
  simp only [OR.val.injEq] at hx
  obtain ⟨rfl, rfl, rfl⟩ := hx
  obtain ⟨l1, e1⟩ := match1s_ok h0
  have l2 := (matchH_ok (P := X.P) h1).1
  have hok := msOk_ok (l1.trans l2) h2
  have hrows : RowsIn X.P h s1 m.hin := RowsIn.of_match h1 (.refl _)
  refine Calls.mono (hm.2 (envT E s1) w vs (hok.eok he) (there_hr hr hrows hok.inj) (e1 s1 E l2 vs hv) (there_fresh hok.lt)) ?_
  rintro e w' ⟨r, E', hq, p1, p2, p3, p4⟩
  obtain ⟨b1, b2⟩ := goes_back hr hrows hok.lt hf p4 p3 h4 h5
  exact ⟨r, _, p1, b1.renV h6 p2, b2⟩
theorem useMemos_cons (X : Ctx) (m : Memo) (ms : List Memo) (f : Nat) (args : List V1) (h : Heap) (c : Nat) : useMemos X (m :: ms) f args h c = (match Nat.beq m.f f with
    | true => orElse_ (useMemo X m args h c) (useMemos X ms f args h c)
    | false => useMemos X ms f args h c) := rfl
theorem orElse_ok {r k : OR} {v : AV} {h : Heap} {c : Nat} (hx : orElse_ r k = .val v h c) : r = .val v h c ∨ k = .val v h c := by
  cases r with
  | bad => exact .inr hx
  | val a b d => exact .inl hx
def At (X : Ctx) (f : Nat) (args : List V1) (h : Heap) (c : Nat) (v : AV) (h' : Heap) (c' : Nat) : Prop := (∃ fn, X.P.funcs[f]? = some fn ∧ fn.body.isSome = true) ∧
  ∀ E w vs, EOk X E → HR X.P E h w → All2 (V1R E) args vs → Fresh E c c' →
    Calls X.P f vs.toArray w fun e w' => ∃ r E', e = .returned r ∧ AVR E' v r ∧ Goes X.P E w h c E' w' h' c'
theorem useMemos_ok {X : Ctx} : ∀ {ms : List Memo}, (∀ m, m ∈ ms → MemoOk X.P X.G m) → ∀ {f : Nat} {args : List V1} {h : Heap} {c : Nat} {v : AV} {h' : Heap} {c' : Nat}, useMemos X ms f args h c = .val v h' c' → At X f args h c v h' c'
  | [], _, f, args, h, c, v, h', c', hx => by cases hx
  | m :: ms, hms, f, args, h, c, v, h', c', hx => by
    rw [useMemos_cons] at hx
    split at hx
    · rename_i hf
      rcases orElse_ok hx with hx | hx
      · have := hms m (List.mem_cons_self ..)
        rw [← (nbeq_iff _ _).1 hf]
        exact ⟨this.1, useMemo_ok this hx⟩
      · exact useMemos_ok (fun m hm => hms m (List.mem_cons_of_mem _ hm)) hx
    · exact useMemos_ok (fun m hm => hms m (List.mem_cons_of_mem _ hm)) hx
theorem evalM_succ (X : Ctx) (ms : List Memo) (n f : Nat) : evalM X ms (n + 1) f = (match anyF f ms with
      | true => fun args h c => orElse_ (useMemos X ms f args h c) (callStep X (evalM X ms n) f args h c)
      | false => callStep X (evalM X ms n) f) := rfl
theorem evalM_ok {X : Ctx} (hnum : NoNum X.P) (hmix : X.P.follows .mixedOrders = true) {ms : List Memo} (hms : ∀ m, m ∈ ms → MemoOk X.P X.G m) : ∀ n, CallOk X (evalM X ms n)
  | 0 => by intro f args h c v h' c' hx; cases hx
  | n + 1 => by
    have ih := callStep_ok hnum (evalM_ok hnum hmix hms n) hmix
    intro f args h c v h' c' hx
    rw [evalM_succ] at hx
    split at hx
    · rcases orElse_ok hx with hx | hx
      · exact useMemos_ok hms hx
      · exact ih _ _ _ _ _ _ _ hx
    · exact ih _ _ _ _ _ _ _ hx
theorem memo_ok {P : Program} {G : Nat} (hnum : NoNum P) (hmix : P.follows .mixedOrders = true) {ms : List Memo} (hms : ∀ m, m ∈ ms → MemoOk P G m) (m : Memo) (B : Bnds) (h : runMemo ⟨P, G, B⟩ ms m = true) : MemoOk P G m :=
  memo_of_call (evalM_ok (X := ⟨P, G, m.B⟩) hnum hmix hms 200) h
end Go.Proofs.YtnnilbambpfhiaaGreatDoor.Ev
