/-
  Calls that are known: the matching, and what it says.
-/
import Derived.Test.YtnnilbambpfhiaaGreatDoorEv18
namespace Go.Proofs.YtnnilbambpfhiaaGreatDoor.Ev
open Go

/-! Equal. -/
theorem boolEq_eq {a b : Bool} : boolEq a b = true → a = b := by cases a <;> cases b <;> simp [boolEq, bnot]
theorem kindEq_eq {a b : IntKind} : kindEq a b = true → a = b := by cases a <;> cases b <;> simp [kindEq]
theorem fkEq_eq {a b : FloatKind} : fkEq a b = true → a = b := by cases a <;> cases b <;> simp [fkEq]
theorem tsEq_eq : ∀ {a b}, tsEq a b = true → a = b
  | [], [], _ => rfl
  | [], _ :: _, h => by cases h
  | _ :: _, [], h => by cases h
  | (v, k) :: r, (u, j) :: q, h => by
    simp only [tsEq] at h
    split at h <;> first | (cases h; done) | skip
    rename_i h1 h2
    rw [(nbeq_iff _ _).1 h1, (ieq_iff _ _).1 h2, tsEq_eq h]
theorem linEq_eq {a b : Lin} (h : linEq a b = true) : a = b := by
  cases a <;> cases b <;> simp only [linEq] at h <;> first | (cases h; done) | skip
  · rw [(ieq_iff _ _).1 h]
  · split at h <;> first | (cases h; done) | skip
    rename_i h1
    rw [(ieq_iff _ _).1 h1, tsEq_eq h]
theorem capEq_eq {a b : ACap} (h : capEq a b = true) : a = b := by
  cases a <;> cases b <;> simp only [capEq] at h <;> first | (cases h; done) | (rw [(nbeq_iff _ _).1 h])
theorem capsEq_eq : ∀ {a b}, capsEq a b = true → a = b
  | [], [], _ => rfl
  | [], _ :: _, h => by cases h
  | _ :: _, [], h => by cases h
  | (v, k) :: r, (u, j) :: q, h => by
    simp only [capsEq] at h
    split at h <;> first | (cases h; done) | skip
    rename_i h1 h2
    rw [(nbeq_iff _ _).1 h1, (nbeq_iff _ _).1 h2, capsEq_eq h]
theorem scEq_eq {a b : SC} (h : scEq a b = true) : a = b := by
  cases a <;> cases b <;> simp only [scEq] at h <;> first | (cases h; done) | rfl | skip
  · rw [boolEq_eq h]
  · split at h <;> first | (cases h; done) | skip
    rename_i h1
    rw [kindEq_eq h1, linEq_eq h]
  · split at h <;> first | (cases h; done) | skip
    rename_i h1 h2 h3
    rw [fkEq_eq h1, (nbeq_iff _ _).1 h2, (nbeq_iff _ _).1 h3]
  · rw [(strEq_iff _ _).1 h]
  · split at h <;> first | (cases h; done) | skip
    rename_i h1
    rw [(nbeq_iff _ _).1 h1, (nbeq_iff _ _).1 h]
  · split at h <;> first | (cases h; done) | skip
    rename_i h1 h2 h3
    rw [(nbeq_iff _ _).1 h1, (nbeq_iff _ _).1 h2, capEq_eq h3, (nbeq_iff _ _).1 h]
  · split at h <;> first | (cases h; done) | skip
    rename_i h1
    rw [(nbeq_iff _ _).1 h1, capsEq_eq h]
theorem scsEq_cons (x : SC) (l : List SC) (y : SC) (r : List SC) : scsEq (x :: l) (y :: r) = (match scEq x y with | true => scsEq l r | false => false) := by
  show Bool.rec (motive := fun _ => Bool) false (scsEq l r) (scEq x y) = _
  cases scEq x y <;> rfl
theorem scsEq_eq : ∀ {a b}, scsEq a b = true → a = b
  | [], [], _ => rfl
  | [], _ :: _, h => by cases h
  | _ :: _, [], h => by cases h
  | x :: l, y :: r, h => by
    rw [scsEq_cons] at h
    split at h <;> first | (cases h; done) | skip
    rename_i h1
    rw [scEq_eq h1, scsEq_eq h]
theorem v1Eq_eq {a b : V1} (h : v1Eq a b = true) : a = b := by
  cases a <;> cases b <;> simp only [v1Eq] at h <;> first | (cases h; done) | skip
  · rw [scEq_eq h]
  · rw [scsEq_eq h]
theorem v1sEq_eq : ∀ {a b}, v1sEq a b = true → a = b
  | [], [], _ => rfl
  | [], _ :: _, h => by cases h
  | _ :: _, [], h => by cases h
  | x :: l, y :: r, h => by
    simp only [v1sEq] at h
    split at h <;> first | (cases h; done) | skip
    rename_i h1
    rw [v1Eq_eq h1, v1sEq_eq h]
theorem avEq_eq {a b : AV} (h : avEq a b = true) : a = b := by
  cases a <;> cases b <;> simp only [avEq] at h <;> first | (cases h; done) | skip
  · rw [v1Eq_eq h]
  · rw [v1sEq_eq h]
theorem rowEq_eq {a b : Row} (h : rowEq a b = true) : a = b := by
  unfold rowEq at h
  split at h <;> first | (cases h; done) | skip
  rename_i h1 h2 h3
  cases a; cases b
  simp only at h h1 h2 h3
  rw [(nbeq_iff _ _).1 h1, boolEq_eq h2, boolEq_eq h3, scsEq_eq h]
theorem rowsEq_cons (h : Heap) (x : Nat × Row) (l : Rows_) : rowsEq h (x :: l) = (match hget h x.1 with
    | none => false
    | some r => (match rowEq x.2 r with | true => rowsEq h l | false => false)) := rfl
theorem rowsEq_get {h : Heap} : ∀ {l : Rows_}, rowsEq h l = true → ∀ x, x ∈ l → hget h x.1 = some x.2
  | [], _, x, hx => by cases hx
  | y :: l, hh, x, hx => by
    rw [rowsEq_cons] at hh
    split at hh
    · cases hh
    · rename_i r h1
      split at hh <;> first | (cases hh; done) | skip
      rename_i h2
      rcases List.mem_cons.1 hx with rfl | hx
      · rw [h1, rowEq_eq h2]
      · exact rowsEq_get hh x hx
theorem tmpsEq_cons (h : Tmps) (x : Nat × AV) (l : List (Nat × AV)) : tmpsEq h (x :: l) = (match tget h x.1 with
    | none => false
    | some r => (match avEq x.2 r with | true => tmpsEq h l | false => false)) := rfl
theorem tmpsEq_get {h : Tmps} : ∀ {l : List (Nat × AV)}, tmpsEq h l = true → ∀ x, x ∈ l → tget h x.1 = some x.2
  | [], _, x, hx => by cases hx
  | y :: l, hh, x, hx => by
    rw [tmpsEq_cons] at hh
    split at hh
    · cases hh
    · rename_i r h1
      split at hh <;> first | (cases hh; done) | skip
      rename_i h2
      rcases List.mem_cons.1 hx with rfl | hx
      · rw [h1, avEq_eq h2]
      · exact tmpsEq_get hh x hx
theorem trieOf_cons (x : Nat × Row) (l : Rows_) : trieOf (x :: l) = hset (trieOf l) x.1 (some x.2) := rfl
theorem trieOf_get (i : Nat) (r : Row) : ∀ l : Rows_, hget (trieOf l) i = some r → (i, r) ∈ l
  | [], h => by rw [show trieOf [] = Tr.leaf from rfl, hget_leaf] at h; cases h
  | x :: l, h => by
    rw [trieOf_cons] at h
    by_cases e : i = x.1
    · subst e; rw [hget_hset] at h; cases h; exact List.mem_cons_self ..
    · rw [hget_hset_ne _ _ e] at h; exact List.mem_cons_of_mem _ (trieOf_get i r l h)
theorem trieT_cons (x : Nat × AV) (l : List (Nat × AV)) : trieT (x :: l) = tset (trieT l) x.1 x.2 := rfl
theorem trieT_get (i : Nat) (r : AV) : ∀ l : List (Nat × AV), tget (trieT l) i = some r → (i, r) ∈ l
  | [], h => by rw [show trieT [] = Tr.leaf from rfl, tget_leaf] at h; cases h
  | x :: l, h => by
    rw [trieT_cons] at h
    by_cases e : i = x.1
    · subst e; rw [tget_tset] at h; cases h; exact List.mem_cons_self ..
    · rw [tget_tset_ne _ _ e] at h; exact List.mem_cons_of_mem _ (trieT_get i r l h)

/-! The matching. -/
theorem sLook_cons (x : Nat × Nat) (s : Subst) (i : Nat) : sLook (x :: s) i = (match Nat.beq x.1 i with | true => some x.2 | false => sLook s i) := by
  show Bool.rec (motive := fun _ => Option Nat) (sLook s i) (some x.2) (Nat.beq x.1 i) = _
  cases Nat.beq x.1 i <;> rfl
theorem tLook_cons (x : Nat × Lin) (s : Th) (i : Nat) : tLook (x :: s) i = (match Nat.beq x.1 i with | true => some x.2 | false => tLook s i) := by
  show Bool.rec (motive := fun _ => Option Lin) (tLook s i) (some x.2) (Nat.beq x.1 i) = _
  cases Nat.beq x.1 i <;> rfl
structure MS.le (m m' : MS) : Prop where
  s : ∀ i j, sLook m.s i = some j → sLook m'.s i = some j
  th : ∀ v L, tLook m.th v = some L → tLook m'.th v = some L
theorem MS.le.refl (m : MS) : m.le m := ⟨fun _ _ h => h, fun _ _ h => h⟩
theorem MS.le.trans {a b c : MS} (h : a.le b) (k : b.le c) : a.le c := ⟨fun i j x => k.s i j (h.s i j x), fun i j x => k.th i j (h.th i j x)⟩
/-- what the pattern's numbers and unknowns are -/
noncomputable def envT (E : Env) (m : MS) : Env := ⟨fun i => (sLook m.s i).bind E.σ, fun v => match tLook m.th v with | some L => L.den E.ρ | none => 0⟩
theorem envT_σ {E : Env} {m : MS} {i j : Nat} (h : sLook m.s i = some j) : (envT E m).σ i = E.σ j := by simp [envT, h]
theorem envT_ρ {E : Env} {m : MS} {v : Nat} {L : Lin} (h : tLook m.th v = some L) : (envT E m).ρ v = L.den E.ρ := by simp [envT, h]

theorem sAdd_ok {m m' : MS} {i j : Nat} (h : sAdd m i j = some m') : m.le m' ∧ sLook m'.s i = some j := by
  unfold sAdd at h
  split at h
  · rename_i h1
    cases h
    refine ⟨⟨fun a b hab => ?_, fun _ _ h => h⟩, ?_⟩
    · rw [sLook_cons]
      cases hq : Nat.beq i a with
      | true => rw [(nbeq_iff _ _).1 hq, hab] at h1; cases h1
      | false => exact hab
    · rw [sLook_cons]; simp only [(nbeq_iff i i).2 rfl]
  · rename_i k h1
    split at h <;> first | (cases h; done) | skip
    rename_i h2
    cases h
    rw [← (nbeq_iff _ _).1 h2]
    exact ⟨.refl _, h1⟩
theorem guardO_ok {b : Bool} {m m' : MS} (h : guardO b m = some m') : b = true ∧ m' = m := by
  cases b
  · cases h
  · cases h; exact ⟨rfl, rfl⟩
theorem matchI_ok {m m' : MS} {a b : Lin} (h : matchI m a b = some m') : m.le m' ∧ ∀ M E, m'.le M → a.den (envT E M).ρ = b.den E.ρ := by
  cases a with
  | c x =>
    simp only [matchI] at h
    split at h <;> first | (cases h; done) | skip
    obtain ⟨h1, rfl⟩ := guardO_ok h
    rw [(ieq_iff _ _).1 h1]
    exact ⟨.refl _, fun _ _ _ => rfl⟩
  | l n t =>
    simp only [matchI] at h
    split at h <;> first | (cases h; done) | skip
    rename_i v k
    split at h <;> first | (cases h; done) | skip
    rename_i hk
    rw [(ieq_iff _ _).1 hk]
    have fin : ∀ (M : MS) (E : Env) (L : Lin), tLook M.th v = some L → L = b.sub (.c n) → (Lin.l n [(v, 1)]).den (envT E M).ρ = b.den E.ρ := fun M E L h1 h2 => by
      have e : (envT E M).ρ v = b.den E.ρ - n := by rw [envT_ρ h1, h2, den_sub]; rfl
      show n + (1 * (envT E M).ρ v + 0) = _
      rw [e]; omega
    split at h
    · rename_i h1
      cases h
      refine ⟨⟨fun _ _ h => h, fun u L hu => ?_⟩, fun M E hM => fin M E (b.sub (.c n)) (hM.th _ _ ?_) rfl⟩
      · rw [tLook_cons]
        cases hq : Nat.beq v u with
        | true => rw [(nbeq_iff _ _).1 hq, hu] at h1; cases h1
        | false => exact hu
      · rw [tLook_cons]; simp only [(nbeq_iff v v).2 rfl]
    · rename_i L h1
      obtain ⟨h2, rfl⟩ := guardO_ok h
      exact ⟨.refl _, fun M E hM => fin M E L (hM.th _ _ h1) (linEq_eq h2)⟩
theorem capsM_ok : ∀ {l k : List (Nat × Nat)} {m m' : MS}, capsM m l k = some m' → m.le m' ∧ ∀ M E, m'.le M → ∀ vs, All2 (PR E) k vs → All2 (PR (envT E M)) l vs
  | [], [], m, m', h => by cases h; exact ⟨.refl _, fun _ _ _ _ h => by cases h; exact .nil⟩
  | [], _ :: _, m, m', h => by cases h
  | _ :: _, [], m, m', h => by cases h
  | (i, o) :: r, (j, p) :: q, m, m', h => by
    simp only [capsM] at h
    split at h <;> first | (cases h; done) | skip
    rename_i m1 h1 h2
    obtain ⟨l1, e1⟩ := sAdd_ok h2
    obtain ⟨l2, e2⟩ := capsM_ok h
    refine ⟨l1.trans l2, fun M E hM vs hv => ?_⟩
    cases hv with
    | cons hp ht =>
      refine .cons ?_ (e2 M E hM _ ht)
      obtain ⟨b, κ, h3, h4⟩ := hp
      exact ⟨b, κ, by rw [envT_σ (hM.s _ _ (l2.s _ _ e1))]; exact h3, by rw [h4, (nbeq_iff _ _).1 h1]⟩
/-- The pattern says what stands there. -/
def Says {α : Type} (R : Env → α → Value → Prop) (a b : α) (m m' : MS) : Prop := m.le m' ∧ ∀ M E, m'.le M → ∀ v, R E b v → R (envT E M) a v
theorem matchS_ok {m m' : MS} {a b : SC} (h : matchS m a b = some m') : Says SR a b m m' := by
  cases a <;> cases b <;> simp only [matchS] at h <;> first | (cases h; done) | skip
  · obtain ⟨h1, rfl⟩ := guardO_ok h
    rw [boolEq_eq h1]
    exact ⟨.refl _, fun M E _ v hv => by cases hv; exact .bool _⟩
  · split at h <;> first | (cases h; done) | skip
    rename_i h1
    obtain ⟨l1, e1⟩ := matchI_ok h
    rw [kindEq_eq h1]
    refine ⟨l1, fun M E hM v hv => ?_⟩
    cases hv
    rw [← e1 M E hM]
    exact .int _ _
  · split at h <;> first | (cases h; done) | skip
    rename_i h1 h2 h3
    cases h
    rw [fkEq_eq h1, (nbeq_iff _ _).1 h2, (nbeq_iff _ _).1 h3]
    exact ⟨.refl _, fun M E _ v hv => by cases hv; exact .cplx _ _ _⟩
  · obtain ⟨h1, rfl⟩ := guardO_ok h
    rw [(strEq_iff _ _).1 h1]
    exact ⟨.refl _, fun M E _ v hv => by cases hv; exact .str _⟩
  · cases h; exact ⟨.refl _, fun M E _ v hv => by cases hv; exact .nilptr⟩
  · split at h <;> first | (cases h; done) | skip
    rename_i h1
    obtain ⟨l1, e1⟩ := sAdd_ok h
    refine ⟨l1, fun M E hM v hv => ?_⟩
    cases hv with
    | ptr hσ => rw [(nbeq_iff _ _).1 h1]; exact .ptr (by rw [envT_σ (hM.s _ _ e1)]; exact hσ)
  · cases h; exact ⟨.refl _, fun M E _ v hv => by cases hv; exact .nilslice⟩
  · split at h <;> first | (cases h; done) | skip
    rename_i h1 h2 h3
    obtain ⟨l1, e1⟩ := sAdd_ok h
    refine ⟨l1, fun M E hM v hv => ?_⟩
    cases hv with
    | slice hσ =>
      rw [(nbeq_iff _ _).1 h1, (nbeq_iff _ _).1 h2, capEq_eq h3]
      exact .slice (by rw [envT_σ (hM.s _ _ e1)]; exact hσ)
  · cases h; exact ⟨.refl _, fun M E _ v hv => by cases hv; exact .nilfunc⟩
  · split at h <;> first | (cases h; done) | skip
    rename_i h1
    obtain ⟨l1, e1⟩ := capsM_ok h
    refine ⟨l1, fun M E hM v hv => ?_⟩
    cases hv with
    | func hl => rw [(nbeq_iff _ _).1 h1]; exact .func (e1 M E hM _ hl)
theorem matchL_cons (x : SC) (l : List SC) (y : SC) (r : List SC) (m : MS) : matchL (x :: l) (y :: r) m = (match matchS m x y with | none => none | some m' => matchL l r m') := by
  show Option.rec (motive := fun _ => Option MS) none (fun m' => matchL l r m') (matchS m x y) = _
  cases matchS m x y <;> rfl
theorem matchL_ok : ∀ {a b : List SC} {m m' : MS}, matchL a b m = some m' → m.le m' ∧ ∀ M E, m'.le M → ∀ vs, All2 (SR E) b vs → All2 (SR (envT E M)) a vs
  | [], [], m, m', h => by
    have : some m = some m' := h
    cases this; exact ⟨.refl _, fun _ _ _ _ h => by cases h; exact .nil⟩
  | [], _ :: _, m, m', h => by cases h
  | _ :: _, [], m, m', h => by cases h
  | x :: l, y :: r, m, m', h => by
    rw [matchL_cons] at h
    split at h <;> first | (cases h; done) | skip
    rename_i m1 h1
    obtain ⟨l1, e1⟩ := matchS_ok h1
    obtain ⟨l2, e2⟩ := matchL_ok h
    refine ⟨l1.trans l2, fun M E hM vs hv => ?_⟩
    cases hv with
    | cons hp ht => exact .cons (e1 M E (l2.trans hM) _ hp) (e2 M E hM _ ht)
theorem match1_ok {m m' : MS} {a b : V1} (h : match1 m a b = some m') : Says V1R a b m m' := by
  cases a <;> cases b <;> simp only [match1] at h <;> first | (cases h; done) | skip
  · obtain ⟨l1, e1⟩ := matchS_ok h
    exact ⟨l1, fun M E hM v hv => by cases hv with | sc hv => exact .sc (e1 M E hM _ hv)⟩
  · obtain ⟨l1, e1⟩ := matchL_ok h
    exact ⟨l1, fun M E hM v hv => by cases hv with | agg hv => exact .agg (e1 M E hM _ hv)⟩
theorem match1s_cons (x : V1) (l : List V1) (y : V1) (r : List V1) (m : MS) : match1s (x :: l) (y :: r) m = (match match1 m x y with | none => none | some m' => match1s l r m') := by
  show Option.rec (motive := fun _ => Option MS) none (fun m' => match1s l r m') (match1 m x y) = _
  cases match1 m x y <;> rfl
theorem match1s_ok : ∀ {a b : List V1} {m m' : MS}, match1s a b m = some m' → m.le m' ∧ ∀ M E, m'.le M → ∀ vs, All2 (V1R E) b vs → All2 (V1R (envT E M)) a vs
  | [], [], m, m', h => by
    have : some m = some m' := h
    cases this; exact ⟨.refl _, fun _ _ _ _ h => by cases h; exact .nil⟩
  | [], _ :: _, m, m', h => by cases h
  | _ :: _, [], m, m', h => by cases h
  | x :: l, y :: r, m, m', h => by
    rw [match1s_cons] at h
    split at h <;> first | (cases h; done) | skip
    rename_i m1 h1
    obtain ⟨l1, e1⟩ := match1_ok h1
    obtain ⟨l2, e2⟩ := match1s_ok h
    refine ⟨l1.trans l2, fun M E hM vs hv => ?_⟩
    cases hv with
    | cons hp ht => exact .cons (e1 M E (l2.trans hM) _ hp) (e2 M E hM _ ht)
theorem matchV_ok {m m' : MS} {a b : AV} (h : matchV m a b = some m') : Says AVR a b m m' := by
  cases a <;> cases b <;> simp only [matchV] at h <;> first | (cases h; done) | skip
  · obtain ⟨l1, e1⟩ := match1_ok h
    exact ⟨l1, fun M E hM v hv => by cases hv with | one hv => exact .one (e1 M E hM _ hv)⟩
  · obtain ⟨l1, e1⟩ := match1s_ok h
    exact ⟨l1, fun M E hM v hv => by cases hv with | tup hv => exact .tup (e1 M E hM _ hv)⟩
theorem bor_or (a b : Bool) : bor a b = (a || b) := by cases a <;> rfl
theorem bnot_not (a : Bool) : bnot a = !a := by cases a <;> rfl
theorem matchR_ok {P : Program} {m m' : MS} {a b : Row} (h : matchR m a b = some m') : m.le m' ∧ (a.ro = false → b.ro = false) ∧
    ∀ M E, m'.le M → ∀ w x κ, RowR P E w b x κ → RowR P (envT E M) w a x κ := by
  unfold matchR at h
  split at h <;> first | (cases h; done) | skip
  rename_i h1 h2 h3
  obtain ⟨l1, e1⟩ := matchL_ok h
  rw [bor_or, bnot_not, Bool.or_eq_true, Bool.not_eq_true'] at h3
  have hro : a.ro = false → b.ro = false := fun e => by
    rcases h3 with h3 | h3
    · rw [e] at h3; cases h3
    · exact h3
  refine ⟨l1, hro, fun M E hM w x κ hr => ?_⟩
  obtain ⟨pre, rest, fr, k1, k2, k3, k4, k5⟩ := hr.at_
  exact ⟨pre, rest, fr, by rw [(nbeq_iff _ _).1 h1]; exact k1, e1 M E hM _ k2, fun e => k3 (hro e), fun e => k4 (by rw [← boolEq_eq h2]; exact e), fun e => by
    rw [(nbeq_iff _ _).1 h1]; exact k5 (by rw [← boolEq_eq h2]; exact e)⟩
theorem matchH_cons (h : Heap) (x : Nat × Row) (l : Rows_) (m : MS) : matchH h (x :: l) m = (match sLook m.s x.1 with
      | none => none
      | some j => (match hget h j with
        | none => none
        | some r => (match matchR m x.2 r with | none => none | some m' => matchH h l m'))) := by
  show (match sLook m.s x.1 with
      | none => none
      | some j => (match hget h j with
        | none => none
        | some r => Option.rec (motive := fun _ => Option MS) none (matchH h l) (matchR m x.2 r))) = _
  cases sLook m.s x.1 with
  | none => rfl
  | some j =>
    simp only
    generalize hget h j = o
    cases o with
    | none => rfl
    | some r => simp only; cases matchR m x.2 r <;> rfl
theorem matchH_ok {P : Program} {h : Heap} : ∀ {l : Rows_} {m m' : MS}, matchH h l m = some m' → m.le m' ∧ ∀ x, x ∈ l → ∃ j r, sLook m'.s x.1 = some j ∧ hget h j = some r ∧ (x.2.ro = false → r.ro = false) ∧
    ∀ M E, m'.le M → ∀ w b κ, RowR P E w r b κ → RowR P (envT E M) w x.2 b κ
  | [], m, m', hx => by
    have : some m = some m' := hx
    cases this; exact ⟨.refl _, fun _ h => by cases h⟩
  | y :: l, m, m', hx => by
    rw [matchH_cons] at hx
    split at hx <;> first | (cases hx; done) | skip
    rename_i j h1
    split at hx <;> first | (cases hx; done) | skip
    rename_i r h2
    split at hx <;> first | (cases hx; done) | skip
    rename_i m1 h3
    obtain ⟨l1, e1, e2⟩ := matchR_ok (P := P) h3
    obtain ⟨l2, e3⟩ := matchH_ok hx
    refine ⟨l1.trans l2, fun x hm => ?_⟩
    rcases List.mem_cons.1 hm with rfl | hm
    · exact ⟨j, r, l2.s _ _ (l1.s _ _ h1), h2, e1, fun M E hM => e2 M E (l2.trans hM)⟩
    · exact e3 x hm
theorem matchT_cons (t : Tmps) (x : Nat × AV) (l : List (Nat × AV)) (m : MS) : matchT t (x :: l) m = (match tget t x.1 with
      | none => none
      | some v => (match matchV m x.2 v with | none => none | some m' => matchT t l m')) := by
  show (match tget t x.1 with
      | none => none
      | some v => Option.rec (motive := fun _ => Option MS) none (matchT t l) (matchV m x.2 v)) = _
  cases tget t x.1 with
  | none => rfl
  | some v => simp only; cases matchV m x.2 v <;> rfl
theorem matchT_ok {t : Tmps} : ∀ {l : List (Nat × AV)} {m m' : MS}, matchT t l m = some m' → m.le m' ∧ ∀ x, x ∈ l → ∃ v, tget t x.1 = some v ∧
    ∀ M E, m'.le M → ∀ u, AVR E v u → AVR (envT E M) x.2 u
  | [], m, m', hx => by
    have : some m = some m' := hx
    cases this; exact ⟨.refl _, fun _ h => by cases h⟩
  | y :: l, m, m', hx => by
    rw [matchT_cons] at hx
    split at hx <;> first | (cases hx; done) | skip
    rename_i v h1
    split at hx <;> first | (cases hx; done) | skip
    rename_i m1 h3
    obtain ⟨l1, e2⟩ := matchV_ok h3
    obtain ⟨l2, e3⟩ := matchT_ok hx
    refine ⟨l1.trans l2, fun x hm => ?_⟩
    rcases List.mem_cons.1 hm with rfl | hm
    · exact ⟨v, h1, fun M E hM => e2 M E (l2.trans hM)⟩
    · exact e3 x hm

/-! The checks. -/
theorem nodupA_cons (x : Nat) (l : List Nat) : nodupA (x :: l) = (match memN x l with | true => false | false => nodupA l) := by
  show Bool.rec (motive := fun _ => Bool) (nodupA l) false (memN x l) = _
  cases memN x l <;> rfl
theorem snds_cons (x : Nat × Nat) (s : Subst) : snds (x :: s) = x.2 :: snds s := rfl
theorem fsts_cons (x : Nat × Nat) (s : Subst) : fsts (x :: s) = x.1 :: fsts s := rfl
theorem sLook_mem : ∀ {s : Subst} {i j : Nat}, sLook s i = some j → i ∈ fsts s ∧ j ∈ snds s
  | [], i, j, h => by cases h
  | x :: s, i, j, h => by
    rw [sLook_cons] at h
    cases hq : Nat.beq x.1 i with
    | true =>
      rw [hq] at h
      simp only [Option.some.injEq] at h
      rw [fsts_cons, snds_cons, ← (nbeq_iff _ _).1 hq, ← h]
      exact ⟨List.mem_cons_self .., List.mem_cons_self ..⟩
    | false =>
      rw [hq] at h
      obtain ⟨h1, h2⟩ := sLook_mem h
      exact ⟨List.mem_cons_of_mem _ h1, List.mem_cons_of_mem _ h2⟩
theorem sLook_inj : ∀ {s : Subst}, nodupA (snds s) = true → ∀ {i i' j : Nat}, sLook s i = some j → sLook s i' = some j → i = i'
  | [], _, i, i', j, h, _ => by cases h
  | x :: s, hn, i, i', j, h, h' => by
    rw [snds_cons, nodupA_cons] at hn
    split at hn <;> first | (cases hn; done) | skip
    rename_i hm
    have hm' : x.2 ∉ snds s := fun e => by rw [(memN_iff _ _).2 e] at hm; cases hm
    rw [sLook_cons] at h h'
    cases hq : Nat.beq x.1 i <;> cases hq' : Nat.beq x.1 i' <;> rw [hq] at h <;> rw [hq'] at h'
    · exact sLook_inj hn h h'
    · simp only [Option.some.injEq] at h'
      rw [← h'] at h
      exact absurd (sLook_mem h).2 hm'
    · simp only [Option.some.injEq] at h
      rw [← h] at h'
      exact absurd (sLook_mem h').2 hm'
    · exact ((nbeq_iff _ _).1 hq).symm.trans ((nbeq_iff _ _).1 hq')
theorem allLt_cons (c x : Nat) (l : List Nat) : allLt c (x :: l) = (match Nat.blt x c with | true => allLt c l | false => false) := rfl
theorem allLt_mem {c : Nat} : ∀ {l : List Nat}, allLt c l = true → ∀ x, x ∈ l → x < c
  | [], _, x, h => by cases h
  | y :: l, h, x, hx => by
    rw [allLt_cons] at h
    split at h <;> first | (cases h; done) | skip
    rename_i h1
    rcases List.mem_cons.1 hx with rfl | hx
    · exact (blt_iff _ _).1 h1
    · exact allLt_mem h x hx
theorem initS_look : ∀ (G g : Nat), g < G → sLook (initS G) g = some g
  | 0, g, h => by omega
  | G + 1, g, h => by
    rw [show initS (G + 1) = (G, G) :: initS G from rfl, sLook_cons]
    cases hq : Nat.beq G g with
    | true => simp only [(nbeq_iff _ _).1 hq]
    | false => exact initS_look G g (by have := (nbeq_false _ _).1 hq; omega)
theorem rngOk_cons (B : Bnds) (th : Th) (b : Int × Int) (l : Bnds) (v : Nat) : rngOk B th (b :: l) v = (match tLook th v with
      | none => false
      | some L => (match L.range B with
        | none => false
        | some (lo, hi) => (match ile b.1 lo, ile hi b.2 with | true, true => rngOk B th l (v + 1) | _, _ => false))) := rfl
theorem rngOk_ok {B : Bnds} {th : Th} : ∀ {Bt : Bnds} {v : Nat}, rngOk B th Bt v = true → ∀ u b, getB Bt u = some b → ∃ L lo hi, tLook th (v + u) = some L ∧ L.range B = some (lo, hi) ∧ b.1 ≤ lo ∧ hi ≤ b.2
  | [], v, _, u, b, h => by cases h
  | x :: l, v, hx, u, b, h => by
    rw [rngOk_cons] at hx
    split at hx <;> first | (cases hx; done) | skip
    rename_i L h1
    split at hx <;> first | (cases hx; done) | skip
    rename_i lo hi h2
    split at hx <;> first | (cases hx; done) | skip
    rename_i h3 h4
    cases u with
    | zero =>
      cases h
      exact ⟨L, lo, hi, h1, h2, (ile_iff _ _).1 h3, (ile_iff _ _).1 h4⟩
    | succ u =>
      have := rngOk_ok hx u b h
      rwa [show v + 1 + u = v + (u + 1) by omega] at this
/-- The pattern's numbers are as the pattern says. -/
structure MOk (X : Ctx) (Bt : Bnds) (c0 : Nat) (m : MS) : Prop where
  inj : ∀ {i i' j : Nat}, sLook m.s i = some j → sLook m.s i' = some j → i = i'
  lt : ∀ {i j : Nat}, sLook m.s i = some j → i < c0
  eok : ∀ {E : Env}, EOk X E → EOk ⟨X.P, X.G, Bt⟩ (envT E m)
theorem msOk_ok {X : Ctx} {Bt : Bnds} {c0 : Nat} {m : MS} (hi : (MS.mk (initS X.G) []).le m) (h : msOk X.B Bt c0 m = true) : MOk X Bt c0 m := by
  unfold msOk at h
  split at h <;> first | (cases h; done) | skip
  rename_i h1 h2 h3
  refine ⟨fun a b => sLook_inj h1 a b, fun a => allLt_mem h2 _ (sLook_mem a).1, fun {E} he => ⟨fun v b hb => ?_, fun g hg => ?_⟩⟩
  · obtain ⟨L, lo, hi', k1, k2, k3, k4⟩ := rngOk_ok h3 v b hb
    rw [Nat.zero_add] at k1
    have := range_sound he.inB L k2
    rw [envT_ρ k1]
    omega
  · have hs : sLook m.s g = some g := hi.s _ _ (initS_look _ _ hg)
    rw [envT_σ hs]
    exact he.glob g hg
end Go.Proofs.YtnnilbambpfhiaaGreatDoor.Ev
