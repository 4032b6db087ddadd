/-
  The operations answer as the model's do (5): slice expressions, append, the builtins.
-/
import Derived.Test.YtnnilbambpfhiaaGreatDoorEv9
namespace Go.Proofs.YtnnilbambpfhiaaGreatDoor.Ev
open Go
variable {P : Program} {E : Env} {w : World} {h : Heap}

def BdR (x : Option Nat) (v : Option Value) : Prop := match x, v with
  | none, none => True
  | some n, some (.int _ i) => i = n
  | _, _ => False
theorem run_bound {k : IntKind} {i : Int} {n y : Nat} (hi : i = n) (h : n ≤ y) (code : BoundsCode) (w : World) : (Instr.sliceBound (.int k i) y code).run P w = .ok n w := by
  subst hi
  simp only [Instr.sliceBound, asIntOf, Sem.run_bind, Sem.run_pure, Result.andThen_ok, Sem.run_ite, if_pos (show (0 : Int) ≤ (n : Int) ∧ (n : Int) ≤ (y : Int) from ⟨by omega, by omega⟩), Int.toNat_natCast]
theorem run_bounds {isSlice : Bool} {len cap : Nat} {lo hi mx : Option Nat} {vl vh vm : Option Value} (hl : BdR lo vl) (hh : BdR hi vh) (hm : BdR mx vm)
    (h1 : mx.getD cap ≤ cap) (h2 : ∀ n, hi = some n → n ≤ mx.getD cap) (h3 : lo.getD 0 ≤ hi.getD len) (h4 : mx.isSome = true → hi.isSome = true) (w : World) :
    (Instr.sliceBounds isSlice len cap vl vh vm).run P w = .ok (lo.getD 0, hi.getD len, mx.getD cap) w := by
  cases mx with
  | none =>
    cases vm with
    | some v => exact hm.elim
    | none =>
      cases hi with
      | none =>
        cases vh with
        | some v => exact hh.elim
        | none =>
          cases lo with
          | none => cases vl with
            | some v => exact hl.elim
            | none => simp [Instr.sliceBounds]
          | some l => cases vl with
            | none => exact hl.elim
            | some v => cases v <;> first | exact hl.elim | simp [Instr.sliceBounds, run_bound hl (show l ≤ len from h3)]
      | some u =>
        cases vh with
        | none => exact hh.elim
        | some v =>
          cases v <;> first | exact hh.elim | skip
          have e1 := fun code => run_bound (P := P) (k := ‹IntKind›) hh (h2 u rfl) code w
          simp only [Option.getD_none] at e1
          cases lo with
          | none => cases vl with
            | some v => exact hl.elim
            | none => simp [Instr.sliceBounds, e1]
          | some l => cases vl with
            | none => exact hl.elim
            | some v => cases v <;> first | exact hl.elim | simp [Instr.sliceBounds, e1, run_bound hl (show l ≤ u from h3)]
  | some m =>
    cases vm with
    | none => exact hm.elim
    | some v =>
      cases v <;> first | exact hm.elim | skip
      have e0 := fun code => run_bound (P := P) (k := ‹IntKind›) hm h1 code w
      cases hi with
      | none => have := h4 rfl; cases this
      | some u =>
        cases vh with
        | none => exact hh.elim
        | some v =>
          cases v <;> first | exact hh.elim | skip
          have e1 := fun k code => run_bound (P := P) (k := k) hh (h2 u rfl) code w
          simp only [Option.getD_some] at e1
          cases lo with
          | none => cases vl with
            | some v => exact hl.elim
            | none => simp [Instr.sliceBounds, e0, e1]
          | some l => cases vl with
            | none => exact hl.elim
            | some v => cases v <;> first | exact hl.elim | simp [Instr.sliceBounds, e0, e1, run_bound hl (show l ≤ u from h3)]

theorem bears_sound (hr : HR P E h w) {e size off len sk id b κ : Nat} {r : Row} (hs : sizeT P e = some size) (h0 : size ≠ 0) (hb : bears e size off len sk r = true) (hi : hget h id = some r) (hσ : E.σ id = some (b, κ)) :
    sk + len ≤ κ ∧ off = sk * size ∧ r.elem = e ∧ r.opn = true ∧ off + len * size ≤ r.cells.length := by
  unfold bears at hb
  split at hb <;> first | cases hb | skip
  rename_i h1 h2 h3 h4
  have h2' := (nbeq_iff _ _).1 h2
  have h3' : off = sk * size := (nbeq_iff _ _).1 h3
  have h4' : off + len * size ≤ r.cells.length := by have := (ble_iff _ _).1 h4; rw [lenC_eq] at this; exact this
  obtain ⟨b', κ', e1, e2⟩ := hr.row id r hi
  rw [hσ] at e1; cases e1
  obtain ⟨pre, rest, fr, _, hc, _, _, hopn⟩ := e2.at_
  have ht := hopn h1
  rw [h2', cellsOf_sizeT hs, List.length_append] at ht
  have hl := hc.length
  refine ⟨?_, h3', h2', h1, h4'⟩
  have : (sk + len) * size ≤ κ * size := by rw [Nat.add_mul]; omega
  exact Nat.le_of_mul_le_mul_right this (Nat.pos_of_ne_zero h0)

theorem sliceA_sound {X : Ctx} (hr : HR X.P E h w) {t : TypeId} {x s : SC} {lo hi mx : Option Nat} (hx : sliceA X t x lo hi mx h = some s) {v : Value} (hv : SR E x v) {vl vh vm : Option Value}
    (hl : BdR lo vl) (hh : BdR hi vh) (hm : BdR mx vm) : ∃ r, (Instr.sliceAt t v vl vh vm).run X.P w = .ok r w ∧ SR E s r := by
  unfold sliceA at hx
  split at hx <;> first | cases hx | skip
  · rename_i str hu
    split at hx <;> first | cases hx | skip
    cases hss : sliceStr str lo hi with
    | none => rw [hss] at hx; cases hx
    | some l =>
      rw [hss] at hx; cases hx
      unfold sliceStr at hss
      simp only at hss
      split at hss <;> cases hss
      rename_i h1 h2
      have h1' := (ble_iff _ _).1 h1
      have h2' := (ble_iff _ _).1 h2
      rw [lenS_eq] at h1' h2'
      cases vm with
      | some v => exact hm.elim
      | none =>
        cases hv
        have hb := run_bounds (P := X.P) (isSlice := false) (len := str.length) (cap := str.length) hl hh (mx := none) (vm := none) trivial (Nat.le_refl _) (fun n hn => by subst hn; exact h1') h2' (fun h => by cases h) w
        refine ⟨_, ?_, .str _⟩
        simp only [Instr.sliceAt, Sem.run_bind, run_underlying hu, Result.andThen_ok, Instr.slice, Option.isSome_none, Bool.false_eq_true, if_false, Sem.run_pure,
          show (ByteArray.mk str.toArray).size = str.length from rfl, hb, lenS_eq]
        congr 2
        apply ByteArray.ext
        simp [ByteArray.data_extract, List.extract_eq_take_drop]
  · rename_i e hu
    split at hx <;> cases hx
    rename_i sz hs h1 h2
    have h1' := (nbeq_iff _ _).1 h1
    have h2' := (nbeq_iff _ _).1 h2
    cases hv
    cases vm with
    | some v => exact hm.elim
    | none =>
      have hb := run_bounds (P := X.P) (isSlice := true) (len := 0) (cap := 0) hl hh (mx := none) (vm := none) trivial (Nat.le_refl _) (fun n hn => by subst hn; simp at h2'; simp [h2']) (by rw [h1']; exact Nat.zero_le _) (fun h => by cases h) w
      rw [h1', h2'] at hb
      refine ⟨.slice none 0 0, ?_, .nilslice⟩
      simp only [Instr.sliceAt, Sem.run_bind, run_underlying hu, Result.andThen_ok, Instr.slice, hb, run_sizeT hs, Sem.run_pure, Option.getD_none, if_true]
  · rename_i e id off len c hu
    cases hs : sizeT X.P e with
    | none => rw [hs] at hx; cases hx
    | some sz =>
      rw [hs] at hx
      simp only at hx
      unfold sliceEx at hx
      simp only at hx
      split at hx <;> cases hx
      rename_i h1 h2 h3 h4
      have h1' := (ble_iff _ _).1 h1
      have h2' := (ble_iff _ _).1 h2
      have h3' := (ble_iff _ _).1 h3
      cases hv with
      | slice hσ =>
        rename_i b κ
        have hb := run_bounds (P := X.P) (isSlice := true) (len := len) (cap := c) hl hh hm h1' (fun n hn => by subst hn; exact h2') h3' (fun hmm => by
          cases hi with
          | some u => rfl
          | none => cases mx with
            | none => cases hmm
            | some m => cases h4) w
        refine ⟨_, ?_, .slice hσ⟩
        simp only [Instr.sliceAt, Sem.run_bind, run_underlying hu, Result.andThen_ok, Instr.slice, capV, hb, run_sizeT hs, Sem.run_pure]
        cases hq : Nat.beq (mx.getD c) (lo.getD 0) with
        | true => rw [if_pos ((nbeq_iff _ _).1 hq)]; rfl
        | false => rw [if_neg ((nbeq_false _ _).1 hq)]; simp only [Option.map_some, addr_add]; rfl
  · rename_i e id off len sk hu
    split at hx <;> first | cases hx | skip
    rename_i sz r hs hi
    split at hx <;> first | cases hx | skip
    rename_i hbear hz
    have hz' := (nbeq_false _ _).1 hz
    cases hv with
    | slice hσ =>
      rename_i b κ
      obtain ⟨hlen, hoff, _⟩ := bears_sound hr hs hz' hbear hi hσ
      unfold sliceOp at hx
      simp only at hx
      cases mx with
      | none =>
        cases vm with
        | some v => exact hm.elim
        | none =>
          simp only at hx
          split at hx <;> cases hx
          rename_i h1 h2 h3
          have h1' := (ble_iff _ _).1 h1
          have h2' := (ble_iff _ _).1 h2
          have hb := run_bounds (P := X.P) (isSlice := true) (len := len) (cap := κ - sk) hl hh (mx := none) (vm := none) trivial (Nat.le_refl _)
            (fun n hn => by subst hn; simp only [Option.getD_some] at h1'; simp only [Option.getD_none]; omega) h2' (fun h => by cases h) w
          refine ⟨_, ?_, .slice hσ⟩
          simp only [Instr.sliceAt, Sem.run_bind, run_underlying hu, Result.andThen_ok, Instr.slice, capV, hb, run_sizeT hs, Sem.run_pure, Option.getD_none]
          have e1 : κ - Nat.add sk (lo.getD 0) = κ - sk - lo.getD 0 := by show κ - (sk + lo.getD 0) = _; omega
          rw [e1]
          by_cases h0 : lo.getD 0 = 0
          · rw [h0]
            split
            · simp [Nat.sub]
            · simp [addr_add, Nat.sub]
          · have : lo.getD 0 < len := by
              cases hq : Nat.beq (lo.getD 0) 0 with
              | true => exact absurd ((nbeq_iff _ _).1 hq) h0
              | false => rw [hq] at h3; exact (blt_iff _ _).1 h3
            rw [if_neg (by omega)]
            simp only [Option.map_some, addr_add]; rfl
      | some m =>
        simp only at hx
        split at hx <;> cases hx
        rename_i hi' h1 h2 h3
        have h1' := (ble_iff _ _).1 h1
        have h2' := (ble_iff _ _).1 h2
        have h3' := (ble_iff _ _).1 h3
        have hb := run_bounds (P := X.P) (isSlice := true) (len := len) (cap := κ - sk) hl hh hm (by simp only [Option.getD_some]; omega)
          (fun n hn => by cases hn; simpa using h2') h3' (fun _ => rfl) w
        refine ⟨_, ?_, .slice hσ⟩
        simp only [Instr.sliceAt, Sem.run_bind, run_underlying hu, Result.andThen_ok, Instr.slice, capV, hb, run_sizeT hs, Sem.run_pure, Option.getD_some]
        cases hq : Nat.beq m (lo.getD 0) with
        | true => rw [if_pos ((nbeq_iff _ _).1 hq)]; rfl
        | false => rw [if_neg ((nbeq_false _ _).1 hq)]; simp only [Option.map_some, addr_add]; rfl

/-! append -/
theorem newCells_sound (hr : HR P E h w) {size n : Nat} {x : SC} {new : List SC} (hx : newCells size x h = some (n, new)) {v : Value} (hv : SR E x v) :
    (∀ w', (Builtin.lenOf v).run P w' = .ok n w') ∧ ∃ vs, All2 (SR E) new vs ∧ vs.length = n * size ∧ ∀ w', w'.heap = w.heap → (Builtin.firstCells size n v).run P w' = .ok vs.toArray w' := by
  unfold newCells at hx
  split at hx <;> first | cases hx | skip
  · cases hv
    exact ⟨fun _ => rfl, [], .nil, by simp, fun _ _ => rfl⟩
  · rename_i s
    split at hx <;> cases hx
    rename_i h1
    have h1' := (nbeq_iff _ _).1 h1
    cases hv
    refine ⟨fun w' => by rw [lenS_eq]; rfl, s.map fun b => .int .u8 b.toNat, ?_, by rw [h1', lenS_eq]; simp, fun w' _ => ?_⟩
    · unfold bytesA
      induction s with
      | nil => exact .nil
      | cons b r ih => exact .cons (.int _ (.c _)) ih
    · simp only [Builtin.firstCells, Sem.run_pure]
      congr 1
      apply Array.ext'
      have e : ((ByteArray.mk s.toArray).extract 0 (lenS s)).data.toList = s := by
        rw [lenS_eq]; simp [ByteArray.data_extract, List.extract_eq_take_drop]
      rw [Array.toList_map, e]
  · rename_i id off len c
    cases hi : hget h id with
    | none => rw [hi] at hx; cases hx
    | some r =>
      rw [hi] at hx
      simp only at hx
      cases ht : takeC (Nat.mul len size) (dropC off r.cells) with
      | none => rw [ht] at hx; cases hx
      | some l =>
        rw [ht] at hx; cases hx
        rw [dropC_eq] at ht
        obtain ⟨e1, e2⟩ := takeC_eq _ _ _ ht
        have e2' : n * size ≤ (r.cells.drop off).length := e2
        cases hv with
        | slice hσ =>
          rename_i b κ
          obtain ⟨b', κ', h1, h2⟩ := hr.row id r hi
          rw [hσ] at h1; cases h1
          obtain ⟨pre, rest, fr, hb, hc, _⟩ := h2.at_
          have hA := (hc.drop off).take (n * size)
          rw [show (r.cells.drop off).take (n * size) = new from e1.symm] at hA
          have hl2 : ((pre.drop off).take (n * size)).length = n * size := by
            rw [← hA.length, e1, List.length_take]; exact Nat.min_eq_left e2'
          refine ⟨fun _ => rfl, (pre.drop off).take (n * size), hA, hl2, fun w' hw' => ?_⟩
          refine run_firstCells_some (P := P) w' size n ⟨b, off, none⟩ n _ _ hl2 (fun j v hj => ?_)
          rw [addr_add, cell_at (l := pre ++ rest) (by rw [hw']; exact hb)]
          rw [List.getElem?_take] at hj
          split at hj
          · rw [List.getElem?_drop] at hj
            have : off + j < pre.length := by
              rcases Nat.lt_or_ge (off + j) pre.length with h | h
              · exact h
              · rw [List.getElem?_eq_none h] at hj; cases hj
            rw [List.getElem?_append_left this]; exact hj
          · cases hj
/-- cells written into an exact or open row, within what is known of it -/
theorem storeCellsA_sound (hr : HR P E h w) {n id off : Nat} {l : List SC} {h' : Heap} (hx : storeA n id off l h = some h') {b κ : Nat} (hσ : E.σ id = some (b, κ))
    {vs : List Value} (hl : All2 (SR E) l vs) (c : Nat) :
    ∃ w', (storeCells ⟨b, off, none⟩ vs).run P w = .ok () w' ∧ Goes P E w h c E w' h' c := by
  unfold storeA at hx
  cases hi : hget h id with
  | none => rw [hi] at hx; cases hx
  | some r =>
    rw [hi] at hx
    simp only at hx
    cases hro : r.ro with
    | true => simp only [hro] at hx; cases hx
    | false =>
      simp only [hro] at hx
      cases hn : Nat.beq (lenC l) n with
      | false => simp only [hn] at hx; cases hx
      | true =>
        simp only [hn] at hx
        cases hp : putC off r.cells l with
        | none => simp only [hp] at hx; cases hx
        | some cs =>
          simp only [hp, Option.some.injEq] at hx
          subst hx
          obtain ⟨hcs, hle⟩ := putC_eq _ _ _ _ hp
          obtain ⟨b', κ', h1, h2⟩ := hr.row id r hi
          rw [hσ] at h1; cases h1
          obtain ⟨pre, rest, fr, hb, hc, hfr, hrest, hopn⟩ := h2.at_
          have hfr' := hfr hro
          subst hfr'
          have hll := hl.length
          have hlp := hc.length
          obtain ⟨w', hw, hb', hbut⟩ := run_storeCells (P := P) (off := off) vs 0 w (pre ++ rest) hb (by rw [List.length_append]; omega) (All2.oneCells hl)
          refine ⟨w', hw, ?_⟩
          refine Goes.wrote hr hi hro rfl hσ hbut.others hbut.size hbut.tape hbut.os hbut.output ⟨⟨pre.take off ++ vs ++ pre.drop (off + vs.length), rest, (0, 0), ?_, ?_, fun _ => rfl, hrest, ?_⟩⟩
          · rw [hb']
            have e1 : (pre ++ rest).take (off + 0) = pre.take off := by
              rw [Nat.add_zero, List.take_append_of_le_length (by omega)]
            have e2 : (pre ++ rest).drop (off + 0 + vs.length) = pre.drop (off + vs.length) ++ rest := by
              rw [Nat.add_zero, List.drop_append_of_le_length (by omega)]
            rw [e1, e2]; simp
          · show All2 (SR E) cs _
            rw [hcs, ← hll]
            exact ((hc.take off).append hl).append (hc.drop _)
          · intro ho
            have := hopn ho
            rw [← this]
            simp only [List.length_append, List.length_take, List.length_drop]; omega
end Go.Proofs.YtnnilbambpfhiaaGreatDoor.Ev
