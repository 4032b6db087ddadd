/-
  The operations answer as the model's do (4): literals, slices, indices, append.
-/
import Derived.Test.YtnnilbambpfhiaaGreatDoorEv8
namespace Go.Proofs.YtnnilbambpfhiaaGreatDoor.Ev
open Go
variable {P : Program} {E : Env} {w : World} {h : Heap}

theorem placesOf_sound : ∀ {fs : List Field} {pl : List (Nat × Nat)}, placesOf P fs = some pl → ∀ w : World, (fs.mapM (fun (f : Field) => (do pure (f.offset, ← sizeOf f.type) : Sem (Nat × Nat))) : Sem (List (Nat × Nat))).run P w = .ok pl w
  | [], pl, hp, w => by simp only [placesOf, Option.some.injEq] at hp; subst hp; simp
  | f :: r, pl, hp, w => by
    simp only [placesOf] at hp
    cases h1 : sizeT P f.type with
    | none => simp [h1] at hp
    | some s =>
      cases h2 : placesOf P r with
      | none => simp [h1, h2] at hp
      | some l =>
        simp only [h1, h2, Option.some.injEq] at hp
        subst hp
        have ih := placesOf_sound h2 w
        rw [List.mapM_cons]
        simp only [Sem.run_bind, run_sizeT h1, Result.andThen_ok, Sem.run_pure, ih]
theorem buildA_sound {t : TypeId} {ps : List (Nat × V1)} {qs : List (Nat × Value)} {x : V1} (hx : buildA P t ps = some x) (hq : All2 (PartR E) ps qs) (w : World) :
    ∃ v, (Instr.build t qs.toArray).run P w = .ok v w ∧ V1R E x v := by
  unfold buildA at hx
  split at hx <;> first | cases hx | skip
  · rename_i z fs hz hu
    obtain ⟨zv, hz1, hz2⟩ := zeroOf_sound (E := E) hz w
    cases hp : placesOf P fs.toList with
    | none => rw [hp] at hx; cases hx
    | some pl =>
      rw [hp] at hx
      simp only at hx
      cases hf : fillA (nthP pl) z ps with
      | none => rw [hf] at hx; cases hx
      | some cs =>
        rw [hf] at hx; cases hx
        obtain ⟨us, h1, h2⟩ := fillA_sound hf hq hz2
        refine ⟨.agg us.toArray, ?_, .agg h2⟩
        have hpl : (fs.mapM (fun (f : Field) => (do pure (f.offset, ← sizeOf f.type) : Sem (Nat × Nat))) : Sem (Array (Nat × Nat))).run P w = .ok pl.toArray w := by
          rw [Array.mapM_eq_mapM_toList, Sem.run_map, placesOf_sound hp w]; rfl
        have hfun : (fun i => pl.toArray[i]?) = nthP pl := by funext i; rw [nthP_eq]; simp
        have h1' : Instr.fill (fun i => pl.toArray[i]?) zv.cells qs = some us.toArray := by rw [hfun]; simpa using h1
        simp only [Instr.build, Sem.run_bind, hz1, Result.andThen_ok, run_underlying hu, hpl]
        rw [h1']; rfl
  · rename_i z n e hz hu
    obtain ⟨zv, hz1, hz2⟩ := zeroOf_sound (E := E) hz w
    cases hs : sizeT P e with
    | none => rw [hs] at hx; cases hx
    | some s =>
      rw [hs] at hx
      simp only at hx
      cases hf : fillA (fun i => some (Nat.mul i s, s)) z ps with
      | none => rw [hf] at hx; cases hx
      | some cs =>
        rw [hf] at hx; cases hx
        obtain ⟨us, h1, h2⟩ := fillA_sound hf hq hz2
        refine ⟨.agg us.toArray, ?_, .agg h2⟩
        have h1' : Instr.fill (fun i => some (i * s, s)) zv.cells qs = some us.toArray := by simpa using h1
        simp only [Instr.build, Sem.run_bind, hz1, Result.andThen_ok, run_underlying hu, run_sizeT hs]
        rw [h1']; rfl
theorem repC_sound {z : List SC} {zv : List Value} (hz : All2 (SR E) z zv) (h0 : zv ≠ []) : ∀ n, All2 (SR E) (repC z n) ((List.range (n * zv.length)).map fun i => zv[i % zv.length]!)
  | 0 => by simp; exact .nil
  | n + 1 => by
    rw [repC_succ]
    have hl : 0 < zv.length := List.length_pos_iff.2 h0
    have : (List.range ((n + 1) * zv.length)).map (fun i => zv[i % zv.length]!) = zv ++ (List.range (n * zv.length)).map (fun i => zv[i % zv.length]!) := by
      rw [Nat.add_mul, Nat.one_mul, Nat.add_comm, List.range_add, List.map_append, List.map_map]
      congr 1
      · apply List.ext_getElem?
        intro i
        by_cases hi : i < zv.length
        · simp [hi, Nat.mod_eq_of_lt hi]
        · simp [hi]
      · apply List.map_congr_left
        intro i _
        simp
    rw [this]
    exact hz.append (repC_sound hz h0 n)
theorem elemSl_sound {t e : TypeId} (he : elemSl P t = some e) : P.underlying t = some (.slice e) := by
  unfold elemSl at he
  split at he <;> first | cases he | skip
  assumption
theorem zeros_eq (zv : Array Value) (n : Nat) : ((Array.range n).map fun i => zv[i % zv.size]!) = ((List.range n).map fun i => zv.toList[i % zv.toList.length]!).toArray := by
  apply Array.ext'
  simp only [Array.toList_map, Array.toList_range, Array.length_toList]
  apply List.map_congr_left
  intro i _
  rw [← Array.getElem!_toList]
theorem buildSliceA_sound {t : TypeId} {n : Nat} {ps : List (Nat × V1)} {qs : List (Nat × Value)} {e : Nat} {cs : List SC} (hx : buildSliceA P t n ps = some (e, cs)) (hq : All2 (PartR E) ps qs) (w : World) :
    ∃ us, (Instr.buildSlice t n qs.toArray).run P w = .ok (.slice (some ⟨w.heap.size, 0, none⟩) n n) (w.alloc (.cells us.toArray e)) ∧ All2 (SR E) cs us := by
  unfold buildSliceA at hx
  cases hel : elemSl P t with
  | none => rw [hel] at hx; cases hx
  | some e' =>
    rw [hel] at hx
    simp only at hx
    split at hx <;> first | cases hx | skip
    rename_i s z hs hz
    split at hx <;> first | cases hx | skip
    rename_i h0 hl hle
    have h0' := (nbeq_false _ _).1 h0
    have hl' := (nbeq_iff _ _).1 hl
    have hle' := (ble_iff _ _).1 hle
    rw [lenC_eq] at hl'
    cases hf : fillA (fun i => some (Nat.mul i s, s)) (repC z n) ps with
    | none => rw [hf] at hx; cases hx
    | some cs' =>
      rw [hf] at hx
      simp only [Option.some.injEq, Prod.mk.injEq] at hx
      obtain ⟨rfl, rfl⟩ := hx
      obtain ⟨zv, hz1, hz2⟩ := zeroOf_sound (E := E) hz w
      have hzl := hz2.length
      have hzs : zv.cells.toList.length = s := by omega
      have hne : zv.cells.toList ≠ [] := fun e => by rw [e] at hzs; simp at hzs; omega
      have hrep := repC_sound hz2 hne n
      obtain ⟨us, h1, h2⟩ := fillA_sound hf hq hrep
      refine ⟨us, ?_, h2⟩
      have hlim : ¬ (n * s > 2 ^ 24) := by
        have : Nat.mul n s ≤ 16777216 := hle'
        have e : Nat.mul n s = n * s := rfl
        omega
      have hplace : (fun i => some (Nat.mul i s, s)) = (fun i : Nat => some (i * s, s)) := rfl
      rw [hplace] at h1
      by_cases hc : n * s = 0
      · have : n * zv.cells.toList.length = 0 := by rw [hzs]; exact hc
        rw [this] at h1
        have h1' : Instr.fill (fun i => some (i * s, s)) #[] qs = some us.toArray := by simpa using h1
        simp [Instr.buildSlice, run_underlying (elemSl_sound hel), run_sizeT hs, hc, Array.range_zero', h1', newRow]
      · have h1' : Instr.fill (fun i => some (i * s, s)) ((Array.range (n * s)).map fun i => zv.cells[i % zv.cells.size]!) qs = some us.toArray := by
          rw [zeros_eq, show n * s = n * zv.cells.toList.length by rw [hzs]]
          exact h1
        simp only [Instr.buildSlice, Sem.run_bind, run_underlying (elemSl_sound hel), Result.andThen_ok, run_sizeT hs, if_neg hlim, if_neg hc, hz1, Sem.run_pure, h1', newRow, run_newObj, World.alloc_eq]

theorem wrap64_of {n : Nat} (h : (n : Int) ≤ 4611686018427387904) : IntKind.i64.wrap (n : Int) = n := wrap_in .i64 _ (by simp only [kmin]; omega) (by simp only [kmax]; omega)
theorem makeSlice_sound {t e : TypeId} {n k s by_ : Nat} {z : List SC} (he : elemSl P t = some e) (hs : sizeT P e = some s) (hb : bytesT P e = some by_) (hz : zeroOf P e = some z)
    (h0 : s ≠ 0) (hl : z.length = s) (hnk : n ≤ k) (hroom : by_ * k ≤ 281474976710656) (hk : k ≤ 4611686018427387904) {k1 k2 : IntKind} (w : World) :
    ∃ us, (Instr.makeSlice t (.int k1 n) (.int k2 k)).run P w = .ok (.slice (some ⟨w.heap.size, 0, none⟩) n k) (w.alloc (.cells us.toArray e)) ∧ All2 (SR E) (repC z k) us := by
  obtain ⟨zv, hz1, hz2⟩ := zeroOf_sound (E := E) hz w
  have hzl := hz2.length
  have hzs : zv.cells.toList.length = s := by omega
  have hne : zv.cells.toList ≠ [] := fun e => by rw [e] at hzs; simp at hzs; omega
  have hrep := repC_sound hz2 hne k
  refine ⟨_, ?_, hrep⟩
  have hbi : (typeInfo e).run P w = .ok ((P.info? e).getD default) w ∧ ((P.info? e).getD default).bytes = by_ := by
    unfold bytesT at hb
    cases hi : P.info? e with
    | none => rw [hi] at hb; cases hb
    | some i => rw [hi] at hb; cases hb; simp [typeInfo, hi]
  have hw1 := wrap64_of (n := n) (by omega)
  have hw2 := wrap64_of (n := k) (by omega)
  have hbad : ((decide ((k : Int) < 0) || decide (((by_ : Int) * (k : Int)) > 2 ^ 48)) || decide ((n : Int) < 0) || decide ((n : Int) > (k : Int))) = false := by
    have : ((by_ * k : Nat) : Int) = (by_ : Int) * (k : Int) := by simp
    simp only [Bool.or_eq_false_iff, decide_eq_false_iff_not]
    refine ⟨⟨⟨by omega, ?_⟩, by omega⟩, by omega⟩
    rw [← this]; omega
  have hmap : ((Array.range (k * s)).map (fun x => (if k * s = 0 then #[] else zv.cells)[x % (if k * s = 0 then #[] else zv.cells).size]!)) = ((List.range (k * zv.cells.toList.length)).map fun i => zv.cells.toList[i % zv.cells.toList.length]!).toArray := by
    rw [← zeros_eq, hzs]
    by_cases hc : k * s = 0
    · simp [hc, Array.range_zero']
    · simp [hc]
  by_cases hc : k * s = 0
  · rw [if_pos hc] at hmap
    simp only [Instr.makeSlice, Sem.run_bind, run_underlying (elemSl_sound he), Result.andThen_ok, asInt, asIntOf, Sem.run_pure, hbi.1, hbi.2, hw1, hw2, hbad, Bool.false_eq_true, if_false, run_askRoom,
      Int.toNat_natCast, run_sizeT hs, if_pos hc, newRow, run_newObj, World.alloc_eq, hmap]
  · rw [if_neg hc] at hmap
    simp only [Instr.makeSlice, Sem.run_bind, run_underlying (elemSl_sound he), Result.andThen_ok, asInt, asIntOf, Sem.run_pure, hbi.1, hbi.2, hw1, hw2, hbad, Bool.false_eq_true, if_false, run_askRoom,
      Int.toNat_natCast, run_sizeT hs, if_neg hc, hz1, newRow, run_newObj, World.alloc_eq, hmap]

/-! Indices, fields. -/
theorem nonneg_lt (i n : Nat) (h : i < n) : (0 : Int) ≤ (i : Int) ∧ (i : Int) < (n : Int) := ⟨by omega, by omega⟩
theorem idxAddrA_sound {X : Ctx} {t : TypeId} {x s : SC} {i : Nat} (hx : idxAddrA X t x i = some s) {v : Value} (hv : SR E x v) (k : IntKind) (w : World) :
    ∃ r, (Instr.indexAt t v (.int k i)).run X.P w = .ok r w ∧ SR E s r := by
  unfold idxAddrA at hx
  split at hx <;> first | cases hx | skip
  · rename_i n e id off hu
    split at hx <;> cases hx
    rename_i sz hs hlt
    cases hv with
    | ptr hσ =>
      refine ⟨_, ?_, .ptr hσ⟩
      have h1 := nonneg_lt i n ((blt_iff _ _).1 hlt)
      simp only [Instr.indexAt, asIntOf, Sem.run_bind, Sem.run_pure, Result.andThen_ok, run_underlying hu, Instr.sureAddr, Sem.run_ite, if_pos h1, Int.toNat_natCast, run_sizeT hs, addr_add]
      rfl
  · rename_i e id off len c hu
    split at hx <;> cases hx
    rename_i sz hs hlt
    cases hv with
    | slice hσ =>
      refine ⟨_, ?_, .ptr hσ⟩
      have h1 := nonneg_lt i len ((blt_iff _ _).1 hlt)
      simp only [Instr.indexAt, asIntOf, Sem.run_bind, Sem.run_pure, Result.andThen_ok, run_underlying hu, Sem.run_ite, if_pos h1, Int.toNat_natCast, run_sizeT hs, addr_add]
      rfl
theorem partA_sound {t : TypeId} {cs : List SC} {off : Nat} {x : V1} (hx : partA P t cs off = some x) {vs : List Value} (hv : All2 (SR E) cs vs) (w : World) :
    ∃ r, (part t vs.toArray off).run P w = .ok r w ∧ V1R E x r := by
  unfold partA at hx
  split at hx <;> first | cases hx | skip
  · rename_i n hl
    obtain ⟨ha, hs⟩ := run_lay hl w
    cases ht : takeC n (dropC off cs) with
    | none => rw [ht] at hx; cases hx
    | some l =>
      rw [ht] at hx; cases hx
      rw [dropC_eq] at ht
      obtain ⟨h1, _⟩ := takeC_eq _ _ _ ht
      have hA := (hv.drop off).take n
      rw [← h1] at hA
      refine ⟨.agg ((vs.drop off).take n).toArray, ?_, .agg hA⟩
      have : vs.toArray.extract off (off + n) = ((vs.drop off).take n).toArray := by simp [List.extract_eq_take_drop]
      simp only [part, Sem.run_bind, ha, Result.andThen_ok, if_true, hs, Sem.run_pure, this]
  · rename_i n hl
    cases ht : nthC off cs with
    | none => rw [ht] at hx; cases hx
    | some s =>
      rw [ht] at hx; cases hx
      obtain ⟨r, h1, h2⟩ := partS_sound hl hv ht w
      exact ⟨r, h1, .sc h2⟩
theorem indexA_sound {X : Ctx} {t : TypeId} {x r : V1} {i : Nat} (hx : indexA X t x i = some r) {v : Value} (hv : V1R E x v) (k : IntKind) (w : World) :
    ∃ u, (Instr.index t v (.int k i)).run X.P w = .ok u w ∧ V1R E r u := by
  unfold indexA at hx
  split at hx <;> first | cases hx | skip
  · rename_i n e cs hu
    split at hx <;> first | cases hx | skip
    rename_i sz hs hlt
    cases hv with
    | agg hv =>
      obtain ⟨u, h1, h2⟩ := partA_sound hx hv w
      refine ⟨u, ?_, h2⟩
      have h3 := nonneg_lt i n ((blt_iff _ _).1 hlt)
      simp only [Instr.index, asIntOf, Sem.run_bind, Sem.run_pure, Result.andThen_ok, run_underlying hu, Sem.run_ite, if_pos h3, Int.toNat_natCast, run_sizeT hs]
      exact h1
  · rename_i s hu
    cases hn : nthU i s with
    | none => rw [hn] at hx; cases hx
    | some b =>
      rw [hn] at hx; cases hx
      rw [nthU_eq] at hn
      cases hv with
      | sc hv =>
        cases hv
        refine ⟨.int .u8 b.toNat, ?_, .sc (.int _ (.c _))⟩
        have hb : (ByteArray.mk s.toArray)[i]? = some b := by
          have hlt : i < s.length := by
            rcases Nat.lt_or_ge i s.length with h | h
            · exact h
            · rw [List.getElem?_eq_none h] at hn; cases hn
          have h1 : (ByteArray.mk s.toArray)[i]? = (ByteArray.mk s.toArray).data[i]? := by
            simp only [getElem?_def]
            split <;> split <;> first | rfl | (rename_i a b; exact absurd a b) | (rename_i a b; exact absurd b a)
          rw [h1]; simpa using hn
        simp only [Instr.index, asIntOf, Sem.run_bind, Sem.run_pure, Result.andThen_ok, run_underlying hu, show (0 : Int) ≤ (i : Int) by omega, if_true, Int.toNat_natCast, hb]
theorem fieldOf_sound {t : TypeId} {f : Nat} {fd : Field} (hf : fieldOf P t f = some fd) : ∃ fs, P.underlying t = some (.struct fs) ∧ fs[f]? = some fd := by
  unfold fieldOf at hf
  split at hf <;> first | cases hf | skip
  rename_i fs hu
  exact ⟨fs, hu, by simpa using hf⟩
theorem fieldAddr_sound {t : TypeId} {f o id off : Nat} (hp : placeOf P t f = some o) {v : Value} (hv : SR E (.ptr id off) v) (w : World) :
    ∃ r, (Instr.fieldAt t v f).run P w = .ok r w ∧ SR E (.ptr id (Nat.add off o)) r := by
  unfold placeOf at hp
  cases hf : fieldOf P t f with
  | none => rw [hf] at hp; cases hp
  | some fd =>
    rw [hf] at hp
    simp only at hp
    cases hs : sizeT P fd.type with
    | none => rw [hs] at hp; cases hp
    | some s =>
      rw [hs] at hp
      simp only at hp
      cases hz : Nat.beq s 0 with
      | true => rw [hz] at hp; cases hp
      | false =>
        rw [hz] at hp; cases hp
        have hz' := (nbeq_false _ _).1 hz
        obtain ⟨fs, h1, h2⟩ := fieldOf_sound hf
        cases hv with
        | ptr hσ =>
          refine ⟨_, ?_, .ptr hσ⟩
          simp only [Instr.fieldAt, Sem.run_bind, run_underlying h1, Result.andThen_ok, h2, Instr.sureAddr, Sem.run_pure, fieldPlace, run_sizeT hs, if_neg hz', Sem.run_ite, addr_add]
          rfl
theorem fieldA_sound {t : TypeId} {f : Nat} {fd : Field} (hf : fieldOf P t f = some fd) {cs : List SC} {x : V1} (hx : partA P fd.type cs fd.offset = some x) {vs : List Value} (hv : All2 (SR E) cs vs) (w : World) :
    ∃ r, (Instr.field t (.agg vs.toArray) f).run P w = .ok r w ∧ V1R E x r := by
  obtain ⟨fs, h1, h2⟩ := fieldOf_sound hf
  obtain ⟨r, h3, h4⟩ := partA_sound hx hv w
  refine ⟨r, ?_, h4⟩
  simp only [Instr.field, Sem.run_bind, run_underlying h1, Result.andThen_ok, h2, asAgg, Sem.run_pure, h3]
end Go.Proofs.YtnnilbambpfhiaaGreatDoor.Ev
