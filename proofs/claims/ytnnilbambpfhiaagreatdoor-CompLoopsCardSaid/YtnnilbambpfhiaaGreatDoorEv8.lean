/-
  The operations answer as the model's do (3): numbers, texts, comparisons, parts.
-/
import Derived.Test.YtnnilbambpfhiaaGreatDoorEv7
namespace Go.Proofs.YtnnilbambpfhiaaGreatDoor.Ev
open Go
variable {P : Program} {E : Env} {w : World} {h : Heap}

theorem bnot_eq (b : Bool) : bnot b = !b := by cases b <;> rfl
theorem intOp_sound {B : Bnds} (hB : InB B E.ρ) {op : BinOp} {k : IntKind} {x y : Lin} {s : SC} (hx : intOp B op k x y = some s) (t : TypeId) (w : World) :
    ∃ v, (binOp op t (.int k (x.den E.ρ)) (.int k (y.den E.ρ))).run P w = .ok v w ∧ SR E s v := by
  have wrapCase : ∀ {a : Lin} {z : Int}, a.den E.ρ = z → (match wrapL B k a with | some n => some (SC.int k n) | none => none) = some s → SR E s (.int k (k.wrap z)) := by
    intro a z hz hm
    cases hw : wrapL B k a with
    | none => rw [hw] at hm; cases hm
    | some n =>
      rw [hw] at hm; cases hm
      rw [← hz, ← wrapL_sound hB k a n hw]; exact .int k n
  have ltCase : ∀ {a b : Lin} {r : Bool}, (match ltL B a b with | some b => some (SC.bool b) | none => none) = some s → SR E s (.bool (decide (a.den E.ρ < b.den E.ρ))) := by
    intro a b r hm
    cases hw : ltL B a b with
    | none => rw [hw] at hm; cases hm
    | some n => rw [hw] at hm; cases hm; rw [← ltL_sound hB a b hw]; exact .bool _
  have ltNot : ∀ {a b : Lin}, (match ltL B a b with | some b => some (SC.bool (bnot b)) | none => none) = some s → SR E s (.bool (!decide (a.den E.ρ < b.den E.ρ))) := by
    intro a b hm
    cases hw : ltL B a b with
    | none => rw [hw] at hm; cases hm
    | some n => rw [hw] at hm; cases hm; rw [← ltL_sound hB a b hw, bnot_eq]; exact .bool _
  have nle : ∀ a b : Int, (!decide (b < a)) = decide (a ≤ b) := fun a b => by rw [Bool.eq_iff_iff]; simp
  cases op with
  | add => exact ⟨_, by rw [binOp_add]; rfl, wrapCase (den_add _ _ _) hx⟩
  | sub => exact ⟨_, by rw [binOp_sub]; rfl, wrapCase (den_sub _ _ _) hx⟩
  | lss => exact ⟨_, by rw [binOp_lss]; rfl, ltCase (r := true) hx⟩
  | gtr => exact ⟨_, by rw [binOp_gtr]; rfl, ltCase (r := true) hx⟩
  | leq => exact ⟨_, by rw [binOp_leq]; rfl, by rw [← nle]; exact ltNot hx⟩
  | geq => exact ⟨_, by rw [binOp_geq]; rfl, by rw [show decide (x.den E.ρ ≥ y.den E.ρ) = decide (y.den E.ρ ≤ x.den E.ρ) from rfl, ← nle]; exact ltNot hx⟩
  | eql =>
    simp only [intOp] at hx
    cases hw : eqL B x y with
    | none => rw [hw] at hx; cases hx
    | some r =>
      rw [hw] at hx; cases hx
      refine ⟨_, by rw [binOp_eql]; rfl, ?_⟩
      rw [eqL_sound hB x y hw]; exact .bool _
  | neq =>
    simp only [intOp] at hx
    cases hw : eqL B x y with
    | none => rw [hw] at hx; cases hx
    | some r =>
      rw [hw] at hx; cases hx
      refine ⟨_, by rw [binOp_neq]; rfl, ?_⟩
      rw [eqL_sound hB x y hw, bnot_eq]
      have : (x.den E.ρ != y.den E.ρ) = !decide (x.den E.ρ = y.den E.ρ) := rfl
      rw [this]; exact .bool _
  | mul =>
    cases x with
    | c a =>
      cases y with
      | c b => exact ⟨.int k (k.wrap (Int.mul a b)), by rw [binOp_mul]; rfl, wrapCase (a := .c (Int.mul a b)) rfl hx⟩
      | l b u => simp only [intOp] at hx; cases hx
    | l a u => simp only [intOp] at hx; cases hx
  | quo =>
    cases x <;> cases y <;> simp only [intOp] at hx <;> first | cases hx | skip
    rename_i a b
    cases hz : ieq b 0 with
    | true => rw [hz] at hx; cases hx
    | false =>
      rw [hz] at hx; cases hx
      have hb := (ieq_false _ _).1 hz
      refine ⟨.int k (k.wrap (a.tdiv b)), ?_, .int k (.c _)⟩
      rw [binOp_quo]; simp [Op.intDiv, Lin.den, hb]
  | rem =>
    cases x <;> cases y <;> simp only [intOp] at hx <;> first | cases hx | skip
    rename_i a b
    cases hz : ieq b 0 with
    | true => rw [hz] at hx; cases hx
    | false =>
      rw [hz] at hx; cases hx
      have hb := (ieq_false _ _).1 hz
      refine ⟨.int k (a.tmod b), ?_, .int k (.c _)⟩
      rw [binOp_rem]; simp [Op.intDiv, Lin.den, hb]
  | and =>
    cases x <;> cases y <;> simp only [intOp] at hx <;> first | cases hx | skip
    exact ⟨_, by rw [binOp_and]; rfl, .int k (.c _)⟩
  | or =>
    cases x <;> cases y <;> simp only [intOp] at hx <;> first | cases hx | skip
    exact ⟨_, by rw [binOp_or]; rfl, .int k (.c _)⟩
  | xor =>
    cases x <;> cases y <;> simp only [intOp] at hx <;> first | cases hx | skip
    exact ⟨_, by rw [binOp_xor]; rfl, .int k (.c _)⟩
  | andNot =>
    cases x <;> cases y <;> simp only [intOp] at hx <;> first | cases hx | skip
    exact ⟨_, by rw [binOp_andNot]; rfl, .int k (.c _)⟩
  | shl => cases x <;> cases y <;> simp only [intOp] at hx <;> cases hx
  | shr => cases x <;> cases y <;> simp only [intOp] at hx <;> cases hx

theorem strLt_eq : ∀ x y, strLt x y = Op.bytesLess x y
  | [], [] => rfl
  | _ :: _, [] => rfl
  | [], _ :: _ => rfl
  | a :: x, b :: y => by
    simp only [strLt, Op.bytesLess, strLt_eq x y]
    cases h1 : Nat.blt a.toNat b.toNat with
    | true =>
      have : a < b := UInt8.lt_iff_toNat_lt.2 ((blt_iff _ _).1 h1)
      simp [this]
    | false =>
      have h2 := (blt_false _ _).1 h1
      have : ¬ a < b := fun h => by have := UInt8.lt_iff_toNat_lt.1 h; omega
      simp only [this, decide_false, Bool.false_or]
      cases h3 : ueq a b with
      | true =>
        have : a = b := UInt8.toNat.inj ((nbeq_iff _ _).1 h3)
        simp [this]
      | false =>
        have : a ≠ b := fun e => (nbeq_false _ _).1 h3 (by rw [e])
        simp [this]
theorem bor_eq (a b : Bool) : bor a b = (a || b) := by cases a <;> rfl
theorem strOp_sound {op : BinOp} {x y : List UInt8} {s : SC} (hx : strOp op x y = some s) (t : TypeId) (w : World) :
    ∃ v, (binOp op t (.string ⟨x.toArray⟩) (.string ⟨y.toArray⟩)).run P w = .ok v w ∧ SR E s v := by
  have tl : ∀ l : List UInt8, (ByteArray.mk l.toArray).toList = l := fun l => by rw [ByteArray.toList_eq]
  have eb : ∀ op, (op = .shl → False) → (op = .shr → False) → binOp op t (.string ⟨x.toArray⟩) (.string ⟨y.toArray⟩) = Op.stringOp op ⟨x.toArray⟩ ⟨y.toArray⟩ := by
    intro op _ _; cases op <;> rfl
  cases op <;> simp only [strOp] at hx <;> first | cases hx | skip
  case add =>
    cases hb : Nat.ble (Nat.add (lenS x) (lenS y)) 1000000 with
    | false => rw [hb] at hx; cases hx
    | true =>
      rw [hb] at hx; cases hx
      have hl := (ble_iff _ _).1 hb
      rw [lenS_eq, lenS_eq, show Nat.add x.length y.length = x.length + y.length from rfl] at hl
      refine ⟨.string ⟨(x ++ y).toArray⟩, ?_, .str _⟩
      rw [eb _ (by intro h; cases h) (by intro h; cases h)]
      have h1 : (ByteArray.mk x.toArray).size = x.length := rfl
      have h2 : (ByteArray.mk y.toArray).size = y.length := rfl
      have h3 : ¬ (((x.length + y.length : Nat) : Int) > IntKind.i64.max) := by rw [IntKind.max_i64]; omega
      have h4 : (ByteArray.mk x.toArray ++ ByteArray.mk y.toArray) = ⟨(x ++ y).toArray⟩ := by
        apply ByteArray.ext; simp [ByteArray.data_append]
      simp only [Op.stringOp, h1, h2, if_neg h3, h4]; rfl
  case eql => exact ⟨_, by rw [eb _ (by intro h; cases h) (by intro h; cases h)]; simp only [Op.stringOp, tl]; rfl, by rw [strEq_eq]; exact .bool _⟩
  case neq => exact ⟨_, by rw [eb _ (by intro h; cases h) (by intro h; cases h)]; simp only [Op.stringOp, tl]; rfl, by rw [strEq_eq, bnot_eq]; exact .bool _⟩
  case lss => exact ⟨_, by rw [eb _ (by intro h; cases h) (by intro h; cases h)]; simp only [Op.stringOp, tl]; rfl, by rw [strLt_eq]; exact .bool _⟩
  case leq => exact ⟨_, by rw [eb _ (by intro h; cases h) (by intro h; cases h)]; simp only [Op.stringOp, tl]; rfl, by rw [strLt_eq, strEq_eq, bor_eq]; exact .bool _⟩
  case gtr => exact ⟨_, by rw [eb _ (by intro h; cases h) (by intro h; cases h)]; simp only [Op.stringOp, tl]; rfl, by rw [strLt_eq, strEq_eq, bor_eq, bnot_eq]; exact .bool _⟩
  case geq => exact ⟨_, by rw [eb _ (by intro h; cases h) (by intro h; cases h)]; simp only [Op.stringOp, tl]; rfl, by rw [strLt_eq, bnot_eq]; exact .bool _⟩

theorem eqS_sound {B : Bnds} (hB : InB B E.ρ) {t : TypeId} {x y : SC} {r : Bool} (hx : eqS P B t x y = some r) {u v : Value} (hu : SR E x u) (hv : SR E y v) (d : Nat) (w : World) :
    (Op.equalIn (d + 1) t u v).run P w = .ok r w := by
  unfold eqS at hx
  split at hx <;> first | cases hx | skip
  all_goals rename_i ht
  all_goals have hr := run_underlying ht w
  · cases hu; cases hv
    rename_i a b
    simp only [Op.equalIn, Sem.run_bind, hr, Result.andThen_ok]
    cases a <;> cases b <;> rfl
  · cases hu; cases hv
    split at hx <;> first | cases hx | skip
    rename_i hk
    subst hk
    simp only [Op.equalIn, Sem.run_bind, hr, Result.andThen_ok]
    rw [eqL_sound hB _ _ hx]; simp; rfl
  · cases hu; cases hv
    split at hx <;> first | cases hx | skip
    rename_i hk
    subst hk
    simp [Op.equalIn, hr]
  · cases hu; cases hv
    split at hx <;> first | cases hx | skip
    rename_i hk
    subst hk
    simp [Op.equalIn, hr]
  · cases hu; cases hv
    simp [Op.equalIn, hr, strEq_eq, beq_toListBytes, ByteArray.toList_eq]
  all_goals (cases hu; cases hv; simp [Op.equalIn, hr])

/-- a struct's fields, one by one -/
theorem partS_sound {t : TypeId} {n : Nat} (hl : lay P t = some (false, n)) {cs : List SC} {vs : List Value} (hc : All2 (SR E) cs vs) {off : Nat} {s : SC} (hs : nthC off cs = some s) (w : World) :
    ∃ v, (part t vs.toArray off).run P w = .ok v w ∧ SR E s v := by
  obtain ⟨ha, _⟩ := run_lay hl w
  rw [nthC_eq] at hs
  obtain ⟨v, h1, h2⟩ := hc.get? off s hs
  exact ⟨v, by simp [part, ha, h1], h2⟩
theorem eqFs_sound {B : Bnds} (hB : InB B E.ρ) {xs ys : List SC} {us vs : List Value} (hu : All2 (SR E) xs us) (hv : All2 (SR E) ys vs) (d : Nat) : ∀ {fs : List Field} {r : Bool} (_ : eqFs P B xs ys fs = some r) (w : World),
    (Op.eqFields (d + 1) us.toArray vs.toArray fs).run P w = .ok r w
  | [], r, hx, w => by simp only [eqFs, Option.some.injEq] at hx; subst hx; rfl
  | f :: fs, r, hx, w => by
    simp only [eqFs] at hx
    cases hn : (f.name != "_") with
    | false => simp [hn] at hx
    | true =>
      have hne : f.name ≠ "_" := by simpa using hn
      cases hl : lay P f.type with
      | none => simp [hn, hl] at hx
      | some p =>
        obtain ⟨g, n⟩ := p
        cases g with
        | true => simp [hn, hl] at hx
        | false =>
          simp only [hn, hl] at hx
          cases h1 : nthC f.offset xs with
          | none => simp [h1] at hx
          | some x =>
            cases h2 : nthC f.offset ys with
            | none => simp [h1, h2] at hx
            | some y =>
              simp only [h1, h2] at hx
              obtain ⟨u, hu1, hu2⟩ := partS_sound hl hu h1 w
              obtain ⟨v, hv1, hv2⟩ := partS_sound hl hv h2 w
              cases he : eqS P B f.type x y with
              | none => simp [he] at hx
              | some q =>
                have := eqS_sound hB he hu2 hv2 d w
                cases q with
                | false =>
                  simp only [he, Option.some.injEq] at hx
                  subst hx
                  simp [Op.eqFields, hne, hu1, hv1, this]
                | true =>
                  simp only [he] at hx
                  have ih := eqFs_sound hB hu hv d hx w
                  simp [Op.eqFields, hne, hu1, hv1, this, ih]
theorem eqA_sound {B : Bnds} (hB : InB B E.ρ) {t : TypeId} {xs ys : List SC} {r : Bool} (hx : eqA P B t xs ys = some r) {us vs : List Value} (hu : All2 (SR E) xs us) (hv : All2 (SR E) ys vs) (w : World) :
    (Op.equal t (.agg us.toArray) (.agg vs.toArray)).run P w = .ok r w ∧ ∀ op x y, (eqGuard op t x y (.agg us.toArray) (.agg vs.toArray)).run P w = .ok () w := by
  unfold eqA at hx
  split at hx <;> first | cases hx | skip
  rename_i fs ht hp hg
  have hf : P.fieldsOf t = fs := by simp [Program.fieldsOf, ht]
  constructor
  · rw [show Op.equal t (.agg us.toArray) (.agg vs.toArray) = Op.equalIn (9999 + 1) t (.agg us.toArray) (.agg vs.toArray) from rfl,
      run_equalIn_struct w 9999 t _ _ (by rw [hf]; exact ht) hp, hf]
    exact eqFs_sound hB hu hv 9998 hx w
  · intro op x y
    cases op <;> simp [eqGuard, hg]

theorem eq_guard1 {x : SC} {u v : Value} (hu : SR E x u) (op : BinOp) (t : TypeId) (a b : Operand) (w : World) : (eqGuard op t a b u v).run P w = .ok () w := by
  cases hu <;> cases op <;> rfl
theorem cplxOp_sound {op : BinOp} {k : FloatKind} {a b c d : Nat} {s : SC} (hx : cplxOp op k a b c d = some s) (t : TypeId) (w : World) :
    ∃ v, (binOp op t (.complex k a b) (.complex k c d)).run P w = .ok v w ∧ SR E s v := by
  unfold cplxOp at hx
  split at hx <;> cases hx
  · exact ⟨.bool (k.format.order a c == some .eq && k.format.order b d == some .eq), by simp [binOp, Op.complexOp, Op.Complex.cmp, Op.floatCmp, asBool], .bool _⟩
  · exact ⟨.bool (!(k.format.order a c == some .eq && k.format.order b d == some .eq)), by simp [binOp, Op.complexOp, Op.Complex.cmp, Op.floatCmp, asBool], .bool _⟩
/-- == and != of these are asked of Op.equal -/
def headOk : Value → Value → Bool
  | .bool _, .bool _ | .pointer _, .pointer _ | .slice .., .slice .. | .nilFunc, .nilFunc | .nilFunc, .func .. | .func .., .nilFunc | .agg _, .agg _ => true
  | _, _ => false
theorem binOp_head {u v : Value} (t : TypeId) (hk : headOk u v = true) : binOp .eql t u v = (do pure (.bool (← Op.equal t u v))) ∧ binOp .neq t u v = (do pure (.bool (!(← Op.equal t u v)))) := by
  cases u <;> cases v <;> first | exact ⟨rfl, rfl⟩ | cases hk
theorem binOp_eq_other {u v : Value} (t : TypeId) (w : World) {r : Bool} (h1 : (Op.equal t u v).run P w = .ok r w) (hk : headOk u v = true) :
    (binOp .eql t u v).run P w = .ok (.bool r) w ∧ (binOp .neq t u v).run P w = .ok (.bool (!r)) w := by
  obtain ⟨e1, e2⟩ := binOp_head t hk
  rw [e1, e2]
  simp only [Sem.run_bind, h1, Result.andThen_ok, Sem.run_pure, and_self]
theorem eqS_head {B : Bnds} {t : TypeId} {x y : SC} {r : Bool} (hx : eqS P B t x y = some r) (hk : eqKind x = true) {u v : Value} (hu : SR E x u) (hv : SR E y v) : headOk u v = true := by
  unfold eqS at hx
  split at hx <;> first | (cases hx; done) | (cases hk; done) | (cases hu; cases hv; rfl)
theorem binOpA_sound {X : Ctx} (he : EOk X E) {op : BinOp} {t : TypeId} {a b : V1} {s : SC} (hx : binOpA X op t a b = some s) {u v : Value} (hu : V1R E a u) (hv : V1R E b v) (x y : Operand) (w : World) :
    ∃ r, ((do eqGuard op t x y u v; binOp op t u v : Sem Value)).run X.P w = .ok r w ∧ SR E s r := by
  unfold binOpA at hx
  split at hx
  · rename_i k m k' n
    cases hu with | sc hu => cases hv with | sc hv =>
    cases hu; cases hv
    split at hx <;> first | cases hx | skip
    rename_i hk; subst hk
    obtain ⟨r, h1, h2⟩ := intOp_sound he.inB hx t w (P := X.P)
    exact ⟨r, by rw [Sem.run_bind, eqGuard_at_int]; exact h1, h2⟩
  · cases hu with | sc hu => cases hv with | sc hv =>
    cases hu; cases hv
    obtain ⟨r, h1, h2⟩ := strOp_sound (E := E) hx t w (P := X.P)
    exact ⟨r, by rw [Sem.run_bind, eqGuard_at_string]; exact h1, h2⟩
  · cases hu with | sc hu => cases hv with | sc hv =>
    cases hu; cases hv
    split at hx <;> first | cases hx | skip
    rename_i hk; subst hk
    obtain ⟨r, h1, h2⟩ := cplxOp_sound (E := E) hx t w (P := X.P)
    exact ⟨r, by rw [Sem.run_bind, eqGuard_at_complex]; exact h1, h2⟩
  · rename_i xs ys
    cases hu with | agg hu => cases hv with | agg hv =>
    split at hx <;> first | cases hx | skip
    · cases he' : eqA X.P X.B t xs ys with
      | none => rw [he'] at hx; cases hx
      | some r =>
        rw [he'] at hx; cases hx
        obtain ⟨h1, hg⟩ := eqA_sound he.inB he' hu hv w
        exact ⟨_, by rw [Sem.run_bind, hg]; exact (binOp_eq_other t w h1 rfl).1, .bool _⟩
    · cases he' : eqA X.P X.B t xs ys with
      | none => rw [he'] at hx; cases hx
      | some r =>
        rw [he'] at hx; cases hx
        obtain ⟨h1, hg⟩ := eqA_sound he.inB he' hu hv w
        exact ⟨_, by rw [Sem.run_bind, hg]; exact (binOp_eq_other t w h1 rfl).2, by rw [bnot_eq]; exact .bool _⟩
  · cases hu with | sc hu => cases hv with | sc hv =>
    rename_i x' y' _ _ _
    split at hx <;> first | cases hx | skip
    · rename_i hk
      cases he' : eqS X.P X.B t x' y' with
      | none => rw [he'] at hx; cases hx
      | some r =>
        rw [he'] at hx; cases hx
        have h1 := eqS_sound he.inB he' hu hv 9999 w
        exact ⟨_, by rw [Sem.run_bind, eq_guard1 hu]; exact (binOp_eq_other t w h1 (eqS_head he' hk hu hv)).1, .bool _⟩
    · rename_i hk
      cases he' : eqS X.P X.B t x' y' with
      | none => rw [he'] at hx; cases hx
      | some r =>
        rw [he'] at hx; cases hx
        have h1 := eqS_sound he.inB he' hu hv 9999 w
        exact ⟨_, by rw [Sem.run_bind, eq_guard1 hu]; exact (binOp_eq_other t w h1 (eqS_head he' hk hu hv)).2, by rw [bnot_eq]; exact .bool _⟩
  · cases hx
theorem unOpA_sound {B : Bnds} (hB : InB B E.ρ) {op : UnOp} {x s : SC} (hx : unOpA B op x = some s) {u : Value} (hu : SR E x u) (w : World) : ∃ r, (Op.unary op u).run P w = .ok r w ∧ SR E s r := by
  unfold unOpA at hx
  split at hx <;> first | cases hx | skip
  · cases hu
    exact ⟨_, rfl, by rw [bnot_eq]; exact .bool _⟩
  · cases hu
    rename_i k n
    cases hw : wrapL B k (Lin.sub (.c 0) n) with
    | none => rw [hw] at hx; cases hx
    | some m =>
      rw [hw] at hx; cases hx
      refine ⟨_, rfl, ?_⟩
      have := wrapL_sound hB k _ m hw
      rw [den_sub] at this
      rw [show (0 : Int) - n.den E.ρ = (Lin.c 0).den E.ρ - n.den E.ρ from rfl, ← this]
      exact .int k m
  · cases hu
    exact ⟨_, rfl, .int _ (.c _)⟩
end Go.Proofs.YtnnilbambpfhiaaGreatDoor.Ev
