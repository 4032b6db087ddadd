/-
  The operations answer as the model's do (1): memory, literals.
-/
import Derived.Test.YtnnilbambpfhiaaGreatDoorEv5
namespace Go.Proofs.YtnnilbambpfhiaaGreatDoor.Ev
open Go
variable {P : Program} {E : Env} {w : World} {h : Heap}

/-! Types. -/
theorem run_sizeT {t : TypeId} {n : Nat} (ht : sizeT P t = some n) (w : World) : (sizeOf t).run P w = .ok n w := by
  unfold sizeT at ht
  cases hi : P.info? t with
  | none => rw [hi] at ht; cases ht
  | some i => rw [hi] at ht; cases ht; simp [sizeOf, typeInfo, hi]
theorem cellsOf_sizeT {t : TypeId} {n : Nat} (ht : sizeT P t = some n) : P.cellsOf t = n := by
  unfold sizeT at ht
  cases hi : P.info? t with
  | none => rw [hi] at ht; cases ht
  | some i => rw [hi] at ht; cases ht; simp [Program.cellsOf, hi]
theorem run_lay {t : TypeId} {g : Bool} {n : Nat} (ht : lay P t = some (g, n)) (w : World) : (isAgg t).run P w = .ok g w ∧ (sizeOf t).run P w = .ok n w := by
  unfold lay at ht
  cases hi : P.info? t with
  | none => rw [hi] at ht; cases ht
  | some i =>
    have hs : (sizeOf t).run P w = .ok i.size w := by simp [sizeOf, typeInfo, hi]
    cases hu : P.underlying t with
    | none => rw [hi, hu] at ht; cases ht
    | some d =>
      rw [hi, hu] at ht
      have ha : ∀ b : Bool, (match d with | .struct _ | .array _ _ => true | _ => false) = b → (isAgg t).run P w = .ok b w := by
        intro b hb
        unfold isAgg
        rw [Sem.run_bind, run_underlying hu w]
        cases d <;> simp_all
      cases d <;> simp only [Option.some.injEq, Prod.mk.injEq] at ht <;> (obtain ⟨rfl, rfl⟩ := ht; exact ⟨ha _ rfl, hs⟩)

/-! Cells of a row. -/
theorem take_set_succ {α : Type} (cs : List α) (n : Nat) (v : α) (h : n < cs.length) : (cs.set n v).take (n + 1) = cs.take n ++ [v] := by
  induction cs generalizing n with
  | nil => simp at h
  | cons x r ih =>
    cases n with
    | zero => simp
    | succ n => simp at h; simp [ih n h]
theorem addr_add (b o n : Nat) : Addr.add ⟨b, o, none⟩ n = ⟨b, o + n, none⟩ := by
  unfold Addr.add; split
  · subst_vars; rfl
  · rfl
theorem cell_at {b : Nat} {l : List Value} {e : TypeId} {fr : Nat × Nat} (hb : w.heap[b]? = some (.cells l.toArray e fr)) (i : Nat) : w.cell? ⟨b, i, none⟩ = l[i]? := by
  rw [cell_of_row w b i _ _ _ hb]; simp
theorem loadA_sound (hr : HR P E h w) {g : Bool} {n id off : Nat} {x : V1} {t : TypeId} (ht : lay P t = some (g, n)) (hx : loadA g n id off h = some x) {v : Value} (hv : SR E (.ptr id off) v) :
    ∃ val, (Instr.loadAt t v).run P w = .ok val w ∧ V1R E x val := by
  obtain ⟨ha, hs⟩ := run_lay ht w
  cases hv with
  | ptr hσ =>
    rename_i b κ
    unfold loadA at hx
    cases hi : hget h id with
    | none => rw [hi] at hx; cases hx
    | some r =>
      rw [hi] at hx
      obtain ⟨b', κ', h1, h2⟩ := hr.row id r hi
      rw [hσ] at h1; cases h1
      obtain ⟨pre, rest, fr, hb, hc, _⟩ := h2.at_
      cases g with
      | true =>
        cases ht' : takeC n (dropC off r.cells) with
        | none => simp only [ht'] at hx; cases hx
        | some l =>
          simp only [ht', Option.some.injEq] at hx
          subst hx
          rw [dropC_eq] at ht'
          obtain ⟨hl, hlen⟩ := takeC_eq _ _ _ ht'
          have hA := (hc.drop off).take n
          rw [← hl] at hA
          have hlen2 : ((pre.drop off).take n).length = n := by
            rw [← hA.length, hl, List.length_take]; omega
          refine ⟨.agg ((pre.drop off).take n).toArray, ?_, .agg hA⟩
          have hload := run_loadCells_list (P := P) w ⟨b, off, none⟩ ((pre.drop off).take n) (fun j v hj => by
            rw [addr_add, cell_at hb]
            rw [List.getElem?_take] at hj
            split at hj
            · rw [List.getElem?_drop] at hj
              have : off + j < pre.length := by
                rcases Nat.lt_or_ge (off + j) pre.length with h | h
                · exact h
                · rw [List.getElem?_eq_none h] at hj; cases hj
              rw [List.getElem?_append_left this]; exact hj
            · cases hj)
          rw [hlen2] at hload
          simp [Instr.loadAt, Instr.sureAddr, loadVar, ha, hs, hload]
      | false =>
        cases hn : nthC off r.cells with
        | none => simp only [hn] at hx; cases hx
        | some s =>
          simp only [hn, Option.some.injEq] at hx
          subst hx
          rw [nthC_eq] at hn
          obtain ⟨val, h1, h2⟩ := hc.get? off s hn
          refine ⟨val, ?_, .sc h2⟩
          have : off < pre.length := by
            rcases Nat.lt_or_ge off pre.length with h | h
            · exact h
            · rw [List.getElem?_eq_none h] at h1; cases h1
          have hcell : w.cell? ⟨b, off, none⟩ = some val := by rw [cell_at hb, List.getElem?_append_left this]; exact h1
          simp [Instr.loadAt, Instr.sureAddr, loadVar, ha, hcell]

theorem All2.oneCells : ∀ {l : List SC} {vs : List Value}, All2 (SR E) l vs → ∀ v ∈ vs, v.oneCell' = true
  | _, _, .nil, v, hv => by cases hv
  | _, _, .cons h t, v, hv => by
    rcases List.mem_cons.1 hv with rfl | hv
    · exact h.oneCell'
    · exact All2.oneCells t v hv
/-- memory but for one block, and the tape's count, is as it was -/
structure But (b : Nat) (w w' : World) : Prop where
  others : ∀ b', b' ≠ b → w'.heap[b']? = w.heap[b']?
  size : w'.heap.size = w.heap.size
  tape : w'.tape = w.tape
  os : w'.os = w.os
  output : w'.output = w.output
theorem But.refl (b : Nat) (w : World) : But b w w := ⟨fun _ _ => rfl, rfl, rfl, rfl, rfl⟩
theorem But.trans {b : Nat} {w w1 w2 : World} (h : But b w w1) (g : But b w1 w2) : But b w w2 :=
  ⟨fun b' hb => (g.others b' hb).trans (h.others b' hb), g.size.trans h.size, g.tape.trans h.tape, g.os.trans h.os, g.output.trans h.output⟩
theorem run_storeCells {b off : Nat} {e : TypeId} : ∀ (vs : List Value) (i : Nat) (w : World) (cs : List Value), w.heap[b]? = some (.cells cs.toArray e (0, 0)) →
    off + i + vs.length ≤ cs.length → (∀ v ∈ vs, v.oneCell' = true) →
    ∃ w', (storeCells ⟨b, off, none⟩ vs i).run P w = .ok () w' ∧ w'.heap[b]? = some (.cells (cs.take (off + i) ++ vs ++ cs.drop (off + i + vs.length)).toArray e (0, 0)) ∧ But b w w'
  | [], i, w, cs, hb, hl, _ => ⟨w, by simp [storeCells], by simpa using hb, .refl b w⟩
  | v :: vs, i, w, cs, hb, hl, ho => by
    simp only [List.length_cons] at hl
    have hlt : off + i < cs.length := by omega
    have hcell : w.cell? ⟨b, off + i, none⟩ = some cs[off + i] := by rw [cell_at hb]; simp
    have hfz : w.frozen? ⟨b, off + i, none⟩ = false := frozen_of_row w b (off + i) _ e hb
    have hst : (store (Addr.add ⟨b, off, none⟩ i) v).run P w = .ok () (w.setCell ⟨b, off + i, none⟩ v) := by
      rw [addr_add, run_store _ _ _ _ _ (ho v (by simp)), hcell, hfz]; rfl
    have hb' : (w.setCell ⟨b, off + i, none⟩ v).heap[b]? = some (.cells (cs.set (off + i) v).toArray e (0, 0)) := by
      rw [heap_setCell_same w b (off + i) _ e v hb]; simp
    obtain ⟨w', h1, h2, h3⟩ := run_storeCells (off := off) vs (i + 1) (w.setCell ⟨b, off + i, none⟩ v) (cs.set (off + i) v) hb' (by rw [List.length_set]; omega) (fun u hu => ho u (by simp [hu]))
    refine ⟨w', ?_, ?_, ?_⟩
    · simp only [storeCells, Sem.run_bind, hst, Result.andThen_ok]; exact h1
    · have e1 := take_set_succ cs (off + i) v hlt
      have e2 : (cs.set (off + i) v).drop (off + i + 1 + vs.length) = cs.drop (off + i + 1 + vs.length) := List.drop_set_of_lt (show off + i < off + i + 1 + vs.length by omega)
      rw [h2, show off + (i + 1) = off + i + 1 by omega, e1, e2, List.length_cons, show off + i + (vs.length + 1) = off + i + 1 + vs.length by omega]
      simp
    · refine But.trans ⟨fun b' hb' => heap_setCell_other w _ b' v hb', by simp, rfl, rfl, rfl⟩ h3
theorem storeA_sound (hr : HR P E h w) {n id off : Nat} {l : List SC} {h' : Heap} {t : TypeId} (ht : sizeT P t = some n) (hx : storeA n id off l h = some h') {v : Value} (hv : SR E (.ptr id off) v)
    {val : Value} (hl : All2 (SR E) l val.cells.toList) (c : Nat) :
    ∃ w', (Instr.storeAt t v val).run P w = .ok () w' ∧ Goes P E w h c E w' h' c := by
  have hs := run_sizeT ht w
  cases hv with
  | ptr hσ =>
    rename_i b κ
    unfold storeA at hx
    cases hi : hget h id with
    | none => rw [hi] at hx; cases hx
    | some r =>
      rw [hi] at hx
      simp only at hx
      cases hro : r.ro with
      | true => simp only [hro] at hx; cases hx
      | false =>
        simp only [hro] at hx
        cases hn : Nat.beq (lenC l) n with
        | false => simp only [hn] at hx; cases hx
        | true =>
          simp only [hn] at hx
          have hn' := (nbeq_iff _ _).1 hn
          rw [lenC_eq] at hn'
          cases hp : putC off r.cells l with
          | none => simp only [hp] at hx; cases hx
          | some cs =>
            simp only [hp, Option.some.injEq] at hx
            subst hx
            obtain ⟨hcs, hle⟩ := putC_eq _ _ _ _ hp
            obtain ⟨b', κ', h1, h2⟩ := hr.row id r hi
            rw [hσ] at h1; cases h1
            obtain ⟨pre, rest, fr, hb, hc, hfr, hrest, hopn⟩ := h2.at_
            have hfr' := hfr hro
            subst hfr'
            have hll := hl.length
            have hlp := hc.length
            obtain ⟨w', hw, hb', hbut⟩ := run_storeCells (P := P) (off := off) val.cells.toList 0 w (pre ++ rest) hb (by rw [List.length_append]; omega)
              (fun u hu => by
                obtain ⟨j, hj⟩ := List.mem_iff_getElem?.1 hu
                have hjl : j < l.length := by
                  rw [hll]
                  rcases Nat.lt_or_ge j val.cells.toList.length with h | h
                  · exact h
                  · rw [List.getElem?_eq_none h] at hj; cases hj
                obtain ⟨u', hu', hsr⟩ := hl.get? j l[j] (by simp [hjl])
                rw [hj] at hu'; cases hu'
                exact hsr.oneCell')
            refine ⟨w', ?_, ?_⟩
            · have hsz : ¬ (val.cells.size ≠ n) := by
                have : val.cells.size = val.cells.toList.length := by simp
                omega
              simp [Instr.storeAt, Instr.sureAddr, storeVar, hs, show val.cells.size = n by simpa using hsz, hw]
            · refine Goes.wrote hr hi hro rfl hσ hbut.others hbut.size hbut.tape hbut.os hbut.output ⟨⟨pre.take off ++ val.cells.toList ++ pre.drop (off + val.cells.toList.length), rest, (0, 0), ?_, ?_, fun _ => rfl, hrest, ?_⟩⟩
              · rw [hb']
                have e1 : (pre ++ rest).take (off + 0) = pre.take off := by
                  rw [Nat.add_zero, List.take_append_of_le_length (by omega)]
                have e2 : (pre ++ rest).drop (off + 0 + val.cells.toList.length) = pre.drop (off + val.cells.toList.length) ++ rest := by
                  rw [Nat.add_zero, List.drop_append_of_le_length (by omega)]
                rw [e1, e2]; simp
              · show All2 (SR E) cs _
                rw [hcs, ← hll]
                exact ((hc.take off).append hl).append (hc.drop _)
              · intro ho
                have := hopn ho
                rw [← this]
                simp only [List.length_append, List.length_take, List.length_drop]; omega

/-! New rows. -/
theorem newRow_run (P : Program) (w : World) (e : TypeId) (cs : Array Value) : (newRow e cs).run P w = .ok ⟨w.heap.size, 0, none⟩ (w.alloc (.cells cs e)) := by simp [newRow]
theorem Goes.exactRow (hr : HR P E h w) {c : Nat} (hf : Fresh E c (c + 1)) {e : TypeId} {cs : List SC} {vs : List Value} (hv : All2 (SR E) cs vs) (κ : Nat) :
    Goes P E w h c (E.put c w.heap.size κ) (w.alloc (.cells vs.toArray e)) (hset h c (some (rowOf e cs))) (c + 1) := by
  refine Goes.newRow (w' := w.alloc (.cells vs.toArray e)) hr hf (rowOf e cs) (.cells vs.toArray e) κ rfl rfl rfl rfl ?_ rfl h (fun _ _ h => h)
  refine ⟨vs, [], (0, 0), ?_, ?_, fun _ => rfl, fun _ => rfl, fun h => by cases h⟩
  · rw [heap_alloc_new]; simp [rowOf]
  · exact hv.mono fun _ _ => SR.mono (Env.le_put (hf c (Nat.le_refl _) (by omega)))
/-- a new exact row, by allocRow -/
theorem allocRow_sound (hr : HR P E h w) {c : Nat} {e : TypeId} {cs : List SC} {vs : List Value} (hv : All2 (SR E) cs vs) {k : Nat → V1} {v : AV} {h' : Heap} {c' : Nat}
    (ha : allocRow (rowOf e cs) h c k = .val v h' c') (hf : Fresh E c c') :
    v = .one (k c) ∧ Goes P E w h c (E.put c w.heap.size 0) (w.alloc (.cells vs.toArray e)) h' c' ∧ (E.put c w.heap.size 0).σ c = some (w.heap.size, 0) := by
  unfold allocRow at ha
  cases c with
  | zero => cases ha
  | succ m =>
    simp only [OR.val.injEq] at ha
    obtain ⟨rfl, rfl, rfl⟩ := ha
    exact ⟨rfl, Goes.exactRow hr hf hv 0, Env.put_same _ _ _ _⟩
end Go.Proofs.YtnnilbambpfhiaaGreatDoor.Ev
