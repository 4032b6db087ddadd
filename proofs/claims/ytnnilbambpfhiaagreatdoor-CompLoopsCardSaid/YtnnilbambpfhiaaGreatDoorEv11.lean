/-
  The operations answer as the model's do (6): append, the builtins, all operations but calls.
-/
import Derived.Test.YtnnilbambpfhiaaGreatDoorEv10
namespace Go.Proofs.YtnnilbambpfhiaaGreatDoor.Ev
open Go
variable {P : Program} {E : Env} {w : World} {h : Heap}

theorem fitsA_sound {need bytes : Nat} (hf : fitsA need bytes = true) : bytes ≠ 0 ∧ need * bytes ≤ 140737488355328 := by
  unfold fitsA at hf
  split at hf <;> first | cases hf | skip
  rename_i h0
  exact ⟨(nbeq_false _ _).1 h0, (ble_iff _ _).1 hf⟩
theorem bytesT_sound {e by_ : Nat} (hb : bytesT P e = some by_) (w : World) : ∃ i, (typeInfo e).run P w = .ok i w ∧ i.bytes = by_ := by
  unfold bytesT at hb
  cases hi : P.info? e with
  | none => rw [hi] at hb; cases hb
  | some i => rw [hi] at hb; cases hb; exact ⟨i, by simp [typeInfo, hi], rfl⟩
/-- the capacity that is drawn -/
theorem cut_ge (need old e t : Nat) : need ≤ (Question.appendCap need old e).cut t := by simp [Question.cut]
/-- APPEND THAT GROWS: the rows that die may be any. -/
theorem grow_sound (hr : HR P E h w) {c : Nat} {e size need : Nat} {cells : List SC} {vs : List Value} (hc : All2 (SR E) cells vs) (hs : sizeT P e = some size) (hl : vs.length = need * size)
    {zv : Value} (hz : zv.cells.size = size) {h0 : Heap} (hsub : ∀ id r, hget h0 id = some r → hget h id = some r) {v : AV} {h' : Heap} {c' : Nat}
    (ha : growA e need cells h0 c = .val v h' c') (hf : Fresh E c c') (newCap : Nat) (hcap : need ≤ newCap) :
    ∃ E', v = .one (.sc (.slice c 0 need (.opn 0))) ∧ AVR E' v (.slice (some ⟨w.heap.size, 0, none⟩) need newCap) ∧
      Goes P E w h c E' (w.drew.alloc (.cells (vs.toArray ++ Builtin.zeroCells zv.cells (newCap - need)) e)) h' c' := by
  unfold growA allocRow at ha
  cases c with
  | zero => cases ha
  | succ m =>
    simp only [OR.val.injEq] at ha
    obtain ⟨rfl, rfl, rfl⟩ := ha
    have hf' : Fresh E (m + 1) (m + 1 + 1) := hf
    have hput : (E.put (m + 1) w.heap.size newCap).σ (m + 1) = some (w.heap.size, newCap) := Env.put_same _ _ _ _
    have harr : vs.toArray ++ Builtin.zeroCells zv.cells (newCap - need) = (vs ++ (Builtin.zeroCells zv.cells (newCap - need)).toList).toArray := by
      apply Array.ext'; simp
    refine ⟨E.put (m + 1) w.heap.size newCap, rfl, .one (.sc ?_), ?_⟩
    · have := SR.slice (len := need) (off := 0) (c := .opn 0) hput
      simpa [capV] using this
    · refine Goes.newRow (w' := w.drew.alloc _) hr hf' (openRow e cells) _ newCap rfl rfl rfl rfl ?_ rfl h0 hsub
      refine ⟨vs, (Builtin.zeroCells zv.cells (newCap - need)).toList, (0, 0), ?_, ?_, fun _ => rfl, fun h => (by cases h), fun _ => ?_⟩
      · rw [show w.heap.size = w.drew.heap.size from rfl, heap_alloc_new, harr]; rfl
      · exact hc.mono fun _ _ => SR.mono (Env.le_put (hf' _ (Nat.le_refl _) (by omega)))
      · show _ = newCap * P.cellsOf e
        rw [cellsOf_sizeT hs, List.length_append, hl, Array.length_toList]
        simp only [Builtin.zeroCells, Array.size_map, Array.size_range, hz]
        rw [← Nat.add_mul]; congr 1; omega
def SlOrStr (P : Program) (u : TypeId) : Prop := (∃ e, P.underlying u = some (.slice e)) ∨ P.underlying u = some .string
theorem run_append_in {t u ty e size n : Nat} (he : P.underlying t = some (.slice e)) (hu : SlOrStr P u) (hs : sizeT P e = some size) {base : Option Addr} {sLen sCap : Nat} {x : Value} {vs : List Value}
    (hn : (Builtin.lenOf x).run P w = .ok n w) (hv : (Builtin.firstCells size n x).run P w = .ok vs.toArray w) (hle : sLen + n ≤ sCap) {w' : World}
    (hst : ∀ a, base = some a → (storeCells (a.add (sLen * size)) vs).run P w = .ok () w') (hno : base = none → w' = w) :
    (Builtin.append_ #[t, u] ty #[.slice base sLen sCap, x]).run P w = .ok (.slice base (sLen + n) sCap) w' := by
  have hsz := run_sizeT hs w
  rcases hu with ⟨e', hu⟩ | hu
  · cases base with
    | none => simp [Builtin.append_, run_underlying he, run_underlying hu, hsz, hn, hv, hle, hno rfl]
    | some a => simp [Builtin.append_, run_underlying he, run_underlying hu, hsz, hn, hv, hle, hst a rfl]
  · cases base with
    | none => simp [Builtin.append_, run_underlying he, run_underlying hu, hsz, hn, hv, hle, hno rfl]
    | some a => simp [Builtin.append_, run_underlying he, run_underlying hu, hsz, hn, hv, hle, hst a rfl]
theorem run_append_grows {t u ty e size n by_ : Nat} (he : P.underlying t = some (.slice e)) (hu : SlOrStr P u) (hs : sizeT P e = some size) (hb : bytesT P e = some by_) {base : Option Addr} {sLen sCap : Nat} {x : Value} {vs os : List Value}
    {zv : Value} (hz : ∀ w', (zeroValue e).run P w' = .ok zv w')
    (hn : (Builtin.lenOf x).run P w = .ok n w) (hv : (Builtin.firstCells size n x).run P w.drew = .ok vs.toArray w.drew) (ho : (Builtin.firstCells size sLen (.slice base sLen sCap)).run P w.drew = .ok os.toArray w.drew)
    (hlt : sCap < sLen + n) (hfit : Builtin.nextslicecap (sLen + n) sCap * by_ ≤ 281474976710656) (hb0 : by_ ≠ 0) :
    (Builtin.append_ #[t, u] ty #[.slice base sLen sCap, x]).run P w = .ok (.slice (some ⟨w.heap.size, 0, none⟩) (sLen + n) (grownCap w (sLen + n) sCap e))
      (w.drew.alloc (.cells ((os ++ vs).toArray ++ Builtin.zeroCells zv.cells (grownCap w (sLen + n) sCap e - (sLen + n))) e)) := by
  have hsz := run_sizeT hs w
  have hbi : ∃ i, (∀ w', (typeInfo e).run P w' = .ok i w') ∧ i.bytes = by_ := by
    unfold bytesT at hb
    cases hi : P.info? e with
    | none => rw [hi] at hb; cases hb
    | some i => rw [hi] at hb; cases hb; exact ⟨i, fun w' => by simp [typeInfo, hi], rfl⟩
  obtain ⟨i, hi1, hi2⟩ := hbi
  have h1 : ¬ (sLen + n ≤ sCap) := by omega
  have h2 : ¬ (281474976710656 < Builtin.nextslicecap (sLen + n) sCap * by_) := by omega
  rcases hu with ⟨e', hu⟩ | hu
  · simp [Builtin.append_, run_underlying he, run_underlying hu, hsz, hn, hi1, hi2, hz, h1, h2, hb0, Question.forced, hv, ho, newRow, grownCap]
    congr 2
    apply Array.ext'
    simp
  · simp [Builtin.append_, run_underlying he, run_underlying hu, hsz, hn, hi1, hi2, hz, h1, h2, hb0, Question.forced, hv, ho, newRow, grownCap]
    congr 2
    apply Array.ext'
    simp
theorem fit_of {need old by_ : Nat} (h : fitsA need by_ = true) (hlt : old < need) : Builtin.nextslicecap need old * by_ ≤ 281474976710656 ∧ by_ ≠ 0 := by
  obtain ⟨h1, h2⟩ := fitsA_sound h
  exact ⟨growslice_fits hlt h2, h1⟩
theorem zOk_sound {e size : Nat} (hz : zOk P e size = true) : ∃ zv, (∀ w', (zeroValue e).run P w' = .ok zv w') ∧ zv.cells.size = size := by
  unfold zOk at hz
  split at hz <;> first | cases hz | skip
  rename_i z h1
  have h2 := (nbeq_iff _ _).1 hz
  rw [lenC_eq] at h2
  unfold zeroOf at h1
  cases hi : P.info? e with
  | none => rw [hi] at h1; cases h1
  | some i =>
    rw [hi] at h1
    simp only at h1
    cases h0 : i.zero with
    | none => rw [h0] at h1; cases h1
    | some v =>
      rw [h0] at h1
      have := (scsOf_sound (E := ⟨fun _ => none, fun _ => 0⟩) h1).length
      refine ⟨v, fun w' => by simp [zeroValue, typeInfo, hi, h0], ?_⟩
      rw [← h2, this]; simp

theorem appendA_sound {X : Ctx} (hr : HR X.P E h w) {t u ty : TypeId} (hu : SlOrStr X.P u) {s x : SC} {c : Nat} {v : AV} {h' : Heap} {c' : Nat} (hx : appendA X t s x h c = .val v h' c') (hf : Fresh E c c')
    {sv xv : Value} (hs : SR E s sv) (hxv : SR E x xv) : ∃ r w' E', (Builtin.append_ #[t, u] ty #[sv, xv]).run X.P w = .ok r w' ∧ AVR E' v r ∧ Goes X.P E w h c E' w' h' c' := by
  unfold appendA at hx
  cases hel : elemSl X.P t with
  | none => rw [hel] at hx; cases hx
  | some e =>
    rw [hel] at hx
    simp only at hx
    split at hx <;> first | cases hx | skip
    rename_i size by_ hsz hby
    split at hx <;> first | cases hx | skip
    rename_i n new h0 hzok hnew
    have h0' := (nbeq_false _ _).1 h0
    have he := elemSl_sound hel
    obtain ⟨zv, hz1, hz2⟩ := zOk_sound hzok
    obtain ⟨hlen, vs, hvs1, hvs2, hvs3⟩ := newCells_sound hr hnew hxv
    have hrd : HR X.P E h w.drew := hr.of_heap rfl
    unfold appendA.appendTo at hx
    split at hx <;> first | cases hx | skip
    · -- nil
      cases hs
      cases hn0 : Nat.beq n 0 with
      | true =>
        rw [hn0] at hx
        simp only [okS, OR.val.injEq] at hx
        obtain ⟨rfl, rfl, rfl⟩ := hx
        have := (nbeq_iff _ _).1 hn0
        subst this
        refine ⟨_, w, E, run_append_in he hu hsz (hlen w) (hvs3 w rfl) (by omega) (w' := w) (fun a ha => by cases ha) (fun _ => rfl), .one (.sc .nilslice), .refl hr⟩
      | false =>
        rw [hn0] at hx
        simp only at hx
        have hn0' := (nbeq_false _ _).1 hn0
        cases hfit : fitsA n by_ with
        | false => rw [hfit] at hx; cases hx
        | true =>
          rw [hfit] at hx
          simp only at hx
          have hlt : 0 < 0 + n := by omega
          obtain ⟨f1, f2⟩ := fit_of (by rw [Nat.zero_add]; exact hfit) hlt
          have hrun := run_append_grows (ty := ty) (os := []) (base := none) he hu hsz hby hz1 (hlen w) (hvs3 w.drew rfl) (by simp [Builtin.firstCells]) hlt f1 f2
          obtain ⟨E', e1, e2, e3⟩ := grow_sound hr hvs1 hsz hvs2 hz2 (fun _ _ h => h) hx hf (grownCap w (0 + n) 0 e) (by have := cut_ge (0 + n) 0 e (w.tape w.drawn (.appendCap (0 + n) 0 e)); unfold grownCap; omega)
          refine ⟨_, _, E', hrun, ?_, ?_⟩
          · rw [Nat.zero_add] at e2 ⊢; subst e1; exact e2
          · simpa using e3
    · -- a known capacity
      rename_i id off len cap
      cases hs with
      | slice hσ =>
        rename_i b κ
        cases hfitc : Nat.ble (Nat.add len n) cap with
        | true =>
          rw [hfitc] at hx
          simp only at hx
          have hle : len + n ≤ cap := (ble_iff _ _).1 hfitc
          cases hn0 : Nat.beq n 0 with
          | true =>
            rw [hn0] at hx
            simp only [okS, OR.val.injEq] at hx
            obtain ⟨rfl, rfl, rfl⟩ := hx
            have := (nbeq_iff _ _).1 hn0
            subst this
            have hv0 : vs = [] := List.eq_nil_of_length_eq_zero (by rw [hvs2]; simp)
            subst hv0
            exact ⟨_, w, E, run_append_in he hu hsz (hlen w) (hvs3 w rfl) hle (w' := w) (fun a _ => by simp [storeCells]) (fun ha => by cases ha), .one (.sc (.slice hσ)), .refl hr⟩
          | false =>
            rw [hn0] at hx
            simp only at hx
            cases hst : storeA (Nat.mul n size) id (Nat.add off (Nat.mul len size)) new h with
            | none => rw [hst] at hx; cases hx
            | some h1 =>
              rw [hst] at hx
              simp only [okS, OR.val.injEq] at hx
              obtain ⟨rfl, rfl, rfl⟩ := hx
              obtain ⟨w', hw', hg⟩ := storeCellsA_sound hr hst hσ hvs1 c
              exact ⟨_, w', E, run_append_in he hu hsz (hlen w) (hvs3 w rfl) hle (w' := w') (fun a ha => by cases ha; rw [addr_add]; exact hw') (fun ha => by cases ha), .one (.sc (.slice hσ)), hg⟩
        | false =>
          rw [hfitc] at hx
          simp only at hx
          have hlt : cap < len + n := (ble_false _ _).1 hfitc
          have capE : capV κ (.exact cap) = cap := rfl
          split at hx <;> first | cases hx | skip
          · rename_i hfit hl0
            have hl0' := (nbeq_iff _ _).1 hl0
            subst hl0'
            obtain ⟨f1, f2⟩ := fit_of (show fitsA (0 + n) by_ = true from hfit) hlt
            have hrun := run_append_grows (ty := ty) (os := []) (base := some ⟨b, off, none⟩) he hu hsz hby hz1 (hlen w) (hvs3 w.drew rfl)
              (run_firstCells_some w.drew size 0 _ 0 cap [] (by simp) (fun j v hj => by simp at hj)) hlt f1 f2
            obtain ⟨E', e1, e2, e3⟩ := grow_sound hr hvs1 hsz (need := 0 + n) (by rw [Nat.zero_add]; exact hvs2) hz2 (fun _ _ h => h) hx hf (grownCap w (0 + n) cap e) (cut_ge _ _ _ _)
            refine ⟨_, _, E', hrun, ?_, ?_⟩
            · subst e1; exact e2
            · simpa using e3
          · rename_i r hfit _ hi
            cases hto : takeC (Nat.mul len size) (dropC off r.cells) with
            | none => rw [hto] at hx; cases hx
            | some old =>
              rw [hto] at hx
              simp only at hx
              obtain ⟨f1, f2⟩ := fit_of (show fitsA (len + n) by_ = true from hfit) hlt
              have hold := newCells_sound hr (size := size) (n := len) (x := .slice id off len (.exact cap)) (new := old) (by simp only [newCells, hi, hto]) (SR.slice hσ)
              obtain ⟨_, os, o1, o2, o3⟩ := hold
              have hrun := run_append_grows (ty := ty) (os := os) (base := some ⟨b, off, none⟩) he hu hsz hby hz1 (hlen w) (hvs3 w.drew rfl) (o3 w.drew rfl) hlt f1 f2
              obtain ⟨E', e1, e2, e3⟩ := grow_sound hr (o1.append hvs1) hsz (need := len + n) (by rw [List.length_append, o2, hvs2, Nat.add_mul]) hz2 (fun _ _ h => h) hx hf (grownCap w (len + n) cap e) (cut_ge _ _ _ _)
              refine ⟨_, _, E', hrun, ?_, ?_⟩
              · subst e1; exact e2
              · exact e3
    · -- an open row
      rename_i id off len sk
      cases hs with
      | slice hσ =>
        rename_i b κ
        cases hi : hget h id with
        | none => rw [hi] at hx; cases hx
        | some r =>
          rw [hi] at hx
          simp only at hx
          split at hx <;> first | (cases hx; done) | skip
          · rename_i hbear hn0
            simp only [okS, OR.val.injEq] at hx
            obtain ⟨rfl, rfl, rfl⟩ := hx
            have := (nbeq_iff _ _).1 hn0
            subst this
            obtain ⟨hle, _⟩ := bears_sound hr hsz h0' hbear hi hσ
            have hv0 : vs = [] := List.eq_nil_of_length_eq_zero (by rw [hvs2]; simp)
            subst hv0
            exact ⟨_, w, E, run_append_in he hu hsz (hlen w) (hvs3 w rfl) (show len + 0 ≤ κ - sk by omega) (w' := w) (fun a _ => by simp [storeCells]) (fun ha => by cases ha), .one (.sc (.slice hσ)), .refl hr⟩
          · rename_i hbear hn0
            split at hx <;> first | cases hx | skip
            rename_i old hoff hsk hro hfit hto
            have hoff' := (nbeq_iff _ _).1 hoff
            have hsk' := (nbeq_iff _ _).1 hsk
            subst hoff'; subst hsk'
            obtain ⟨hle, _, hre, hop, hpre⟩ := bears_sound hr hsz h0' hbear hi hσ
            have hold := newCells_sound hr (size := size) (n := len) (x := .slice id 0 len (.opn 0)) (new := old) (by simp only [newCells, hi, dropC_eq, List.drop_zero, hto]) (SR.slice hσ)
            obtain ⟨_, os, o1, o2, o3⟩ := hold
            have hκ : capV κ (.opn 0) = κ := by simp [capV]
            by_cases hcap : len + n ≤ κ
            · -- in its place
              obtain ⟨b', κ', q1, q2⟩ := hr.row id r hi
              rw [hσ] at q1; cases q1
              obtain ⟨pre, rest, fr, hb, hc, hfr, _, hopn⟩ := q2.at_
              have hfr' := hfr hro
              subst hfr'
              have htot := hopn hop
              rw [hre, cellsOf_sizeT hsz] at htot
              have hlp := hc.length
              have hsum : len * size + n * size ≤ κ * size := by rw [← Nat.add_mul]; exact Nat.mul_le_mul_right _ hcap
              obtain ⟨w', hw, hb', hbut⟩ := run_storeCells (P := X.P) (off := len * size) vs 0 w (pre ++ rest) hb (by rw [htot, hvs2]; omega) (All2.oneCells hvs1)
              unfold growA allocRow at hx
              cases c with
              | zero => cases hx
              | succ m =>
                simp only [OR.val.injEq] at hx
                obtain ⟨rfl, rfl, rfl⟩ := hx
                have hf' : Fresh E (m + 1) (m + 1 + 1) := hf
                refine ⟨_, w', E.put (m + 1) b κ, run_append_in he hu hsz (hlen w) (hvs3 w rfl) (by rw [hκ]; exact hcap) (w' := w') (fun a ha => by cases ha; rw [addr_add, Nat.zero_add]; exact hw) (fun ha => by cases ha), ?_, ?_⟩
                · have := SR.slice (E := E.put (m + 1) b κ) (len := Nat.add len n) (off := 0) (c := .opn 0) (Env.put_same E (m + 1) b κ)
                  exact .one (.sc this)
                · refine Goes.regrown (r' := openRow e (old ++ new)) hr hf' hi hro rfl hσ hbut.others hbut.size hbut.tape hbut.os hbut.output ⟨⟨os ++ vs, (pre ++ rest).drop (len * size + n * size), (0, 0), ?_, ?_, fun _ => rfl, fun h => (by cases h), fun _ => ?_⟩⟩
                  · rw [hb', hre]
                    have e1 : (pre ++ rest).take (len * size + 0) = os := by
                      have h1 := o3 w rfl
                      have hA := (hc.take (len * size))
                      rw [Nat.add_zero, List.take_append_of_le_length (by omega)]
                      have h2 := run_firstCells_some (P := X.P) w size len ⟨b, 0, none⟩ len (capV κ (.opn 0)) (pre.take (len * size)) (by rw [List.length_take]; omega) (fun j v hj => by
                        rw [addr_add, cell_at hb, Nat.zero_add]
                        rw [List.getElem?_take] at hj
                        split at hj
                        · have : j < pre.length := by omega
                          rw [List.getElem?_append_left this]; exact hj
                        · cases hj)
                      rw [h1] at h2
                      have := Result.ok.inj h2
                      have := this.1
                      simpa using this.symm
                    rw [e1, Nat.add_zero, hvs2]; rfl
                  · exact (o1.append hvs1).mono fun _ _ => SR.mono (Env.le_put (hf' _ (Nat.le_refl _) (by omega)))
                  · show _ = κ * X.P.cellsOf e
                    rw [cellsOf_sizeT hsz, ← htot]
                    simp only [List.length_append, List.length_drop, o2, hvs2]
                    rw [List.length_append] at htot
                    omega
            · -- elsewhere
              have hlt : capV κ (.opn 0) < len + n := by rw [hκ]; omega
              obtain ⟨f1, f2⟩ := fit_of (show fitsA (len + n) by_ = true from hfit) hlt
              have hrun := run_append_grows (ty := ty) (os := os) (base := some ⟨b, 0, none⟩) he hu hsz hby hz1 (hlen w) (hvs3 w.drew rfl) (o3 w.drew rfl) hlt f1 f2
              obtain ⟨E', e1, e2, e3⟩ := grow_sound hr (o1.append hvs1) hsz (need := len + n) (by rw [List.length_append, o2, hvs2, Nat.add_mul]) hz2 (h0 := hset h id none)
                (fun i r' hr' => by
                  by_cases hid : i = id
                  · subst hid; rw [hget_hset] at hr'; cases hr'
                  · rw [hget_hset_ne _ _ hid] at hr'; exact hr') hx hf (grownCap w (len + n) (capV κ (.opn 0)) e) (cut_ge _ _ _ _)
              refine ⟨_, _, E', hrun, ?_, ?_⟩
              · subst e1; exact e2
              · exact e3
end Go.Proofs.YtnnilbambpfhiaaGreatDoor.Ev
