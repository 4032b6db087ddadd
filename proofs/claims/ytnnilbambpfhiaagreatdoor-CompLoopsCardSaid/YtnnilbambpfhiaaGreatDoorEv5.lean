/-
  The heap's relation to memory; what a step may do.
-/
import Derived.Test.YtnnilbambpfhiaaGreatDoorEv4
namespace Go.Proofs.YtnnilbambpfhiaaGreatDoor.Ev
open Go

/-- A row stands in memory. -/
structure RowR (P : Program) (E : Env) (w : World) (r : Row) (b κ : Nat) : Prop where
  at_ : ∃ (pre rest : List Value) (fr : Nat × Nat), w.heap[b]? = some (.cells (pre ++ rest).toArray r.elem fr) ∧ All2 (SR E) r.cells pre ∧
    (r.ro = false → fr = (0, 0)) ∧ (r.opn = false → rest = []) ∧ (r.opn = true → (pre ++ rest).length = κ * P.cellsOf r.elem)
structure HF (P : Program) (E : Env) (H : Nat → Option Row) (w : World) : Prop where
  row : ∀ id r, H id = some r → ∃ b κ, E.σ id = some (b, κ) ∧ RowR P E w r b κ
  inj : ∀ id id' r r' b κ κ', H id = some r → H id' = some r' → E.σ id = some (b, κ) → E.σ id' = some (b, κ') → id = id'
abbrev HR (P : Program) (E : Env) (h : Heap) (w : World) : Prop := HF P E (hget h) w
/-- no number from c on is taken, up to c' -/
def Fresh (E : Env) (c c' : Nat) : Prop := ∀ id, c ≤ id → id < c' → E.σ id = none
/-- a block that no row of the heap may write -/
def OffF (E : Env) (H : Nat → Option Row) (b : Nat) : Prop := ∀ id r κ, H id = some r → r.ro = false → E.σ id ≠ some (b, κ)
abbrev Off (E : Env) (h : Heap) (b : Nat) : Prop := OffF E (hget h) b
/-- What may become of memory: from E, w, h, c to E', w', h', c'. -/
structure Goes (P : Program) (E : Env) (w : World) (h : Heap) (c : Nat) (E' : Env) (w' : World) (h' : Heap) (c' : Nat) : Prop where
  le : E.le E'
  mono : c ≤ c'
  dom : ∀ id x, E'.σ id = some x → E.σ id = some x ∨ (c ≤ id ∧ id < c')
  hr : HR P E' h' w'
  size : w.heap.size ≤ w'.heap.size
  keep : ∀ b, b < w.heap.size → Off E h b → w'.heap[b]? = w.heap[b]?
  prov : ∀ id r b κ, hget h' id = some r → E'.σ id = some (b, κ) → w.heap.size ≤ b ∨
    ∃ id0 r0 κ0, hget h id0 = some r0 ∧ E.σ id0 = some (b, κ0) ∧ (r.ro = false → r0.ro = false) ∧ (id0 = id ∨ r0.ro = false)
  tape : w'.tape = w.tape
  os : w'.os = w.os
  output : w'.output = w.output

theorem RowR.mono {P : Program} {E E' : Env} {w : World} {r : Row} {b κ : Nat} (h : RowR P E w r b κ) (hle : E.le E') : RowR P E' w r b κ := by
  obtain ⟨pre, rest, fr, h1, h2, h3⟩ := h.at_
  exact ⟨pre, rest, fr, h1, h2.mono fun _ _ => SR.mono hle, h3⟩
theorem RowR.of_block {P : Program} {E : Env} {w w' : World} {r : Row} {b κ : Nat} (h : RowR P E w r b κ) (hb : w'.heap[b]? = w.heap[b]?) : RowR P E w' r b κ := by
  obtain ⟨pre, rest, fr, h1, h2, h3⟩ := h.at_
  exact ⟨pre, rest, fr, hb.trans h1, h2, h3⟩
theorem RowR.lt {P : Program} {E : Env} {w : World} {r : Row} {b κ : Nat} (h : RowR P E w r b κ) : b < w.heap.size := by
  obtain ⟨pre, rest, fr, h1, _⟩ := h.at_
  rcases Nat.lt_or_ge b w.heap.size with h | h
  · exact h
  · rw [Array.getElem?_eq_none h] at h1; cases h1
theorem HF.lt {P : Program} {E : Env} {h : Nat → Option Row} {w : World} (hr : HF P E h w) {id r b κ} (hi : h id = some r) (hs : E.σ id = some (b, κ)) : b < w.heap.size := by
  obtain ⟨b', κ', h1, h2⟩ := hr.row id r hi
  rw [hs] at h1; cases h1
  exact h2.lt
theorem HF.of_heap {P : Program} {E : Env} {h : Nat → Option Row} {w w' : World} (hr : HF P E h w) (e : w'.heap = w.heap) : HF P E h w' :=
  ⟨fun id r hi => let ⟨b, κ, h1, h2⟩ := hr.row id r hi; ⟨b, κ, h1, h2.of_block (by rw [e])⟩, hr.inj⟩
theorem Goes.refl {P : Program} {E : Env} {w : World} {h : Heap} {c : Nat} (hr : HR P E h w) : Goes P E w h c E w h c where
  le := .refl E
  mono := Nat.le_refl _
  dom := fun _ _ h => .inl h
  hr := hr
  size := Nat.le_refl _
  keep := fun _ _ _ => rfl
  prov := fun id r _ κ hi hs => .inr ⟨id, r, κ, hi, hs, fun e => e, .inl rfl⟩
  tape := rfl
  os := rfl
  output := rfl
/-- nothing of memory is turned but the tape's count -/
theorem Goes.drew {P : Program} {E : Env} {w w' : World} {h : Heap} {c : Nat} (hr : HR P E h w) (e1 : w'.heap = w.heap) (e2 : w'.tape = w.tape) (e3 : w'.os = w.os) (e4 : w'.output = w.output) :
    Goes P E w h c E w' h c :=
  { Goes.refl (c := c) hr with
    hr := hr.of_heap e1
    size := by rw [e1]; exact Nat.le_refl _
    keep := fun _ _ _ => by rw [e1]
    tape := e2, os := e3, output := e4 }
theorem Goes.trans {P : Program} {E E1 E2 : Env} {w w1 w2 : World} {h h1 h2 : Heap} {c c1 c2 : Nat} (g : Goes P E w h c E1 w1 h1 c1) (g' : Goes P E1 w1 h1 c1 E2 w2 h2 c2) :
    Goes P E w h c E2 w2 h2 c2 where
  le := g.le.trans g'.le
  mono := Nat.le_trans g.mono g'.mono
  dom := fun id x hx => by
    have := g.mono; have := g'.mono
    rcases g'.dom id x hx with h | h
    · rcases g.dom id x h with h | h
      · exact .inl h
      · exact .inr ⟨h.1, by omega⟩
    · exact .inr ⟨by omega, h.2⟩
  hr := g'.hr
  size := Nat.le_trans g.size g'.size
  keep := fun b hb ho => by
    rw [g'.keep b (Nat.lt_of_lt_of_le hb g.size) ?_, g.keep b hb ho]
    intro id r κ hi hro hs
    rcases g.prov id r b κ hi hs with h | ⟨id0, r0, κ0, h1, h2, h3, _⟩
    · omega
    · exact ho id0 r0 κ0 h1 (h3 hro) h2
  prov := fun id r b κ hi hs => by
    rcases g'.prov id r b κ hi hs with h | ⟨id0, r0, κ0, h1, h2, h3, h3'⟩
    · exact .inl (Nat.le_trans g.size h)
    · rcases g.prov id0 r0 b κ0 h1 h2 with h | ⟨id1, r1, κ1, h4, h5, h6, h6'⟩
      · exact .inl h
      · refine .inr ⟨id1, r1, κ1, h4, h5, fun e => h6 (h3 e), ?_⟩
        rcases h3' with e | e
        · subst e; exact h6'
        · exact .inr (h6 e)
  tape := g'.tape.trans g.tape
  os := g'.os.trans g.os
  output := g'.output.trans g.output
theorem Fresh.left {E : Env} {c c1 c2 : Nat} (h : Fresh E c c2) (h2 : c1 ≤ c2) : Fresh E c c1 := fun id a b => h id a (Nat.lt_of_lt_of_le b h2)
theorem Goes.freshR {P : Program} {E E1 : Env} {w w1 : World} {h h1 : Heap} {c c1 c2 : Nat} (g : Goes P E w h c E1 w1 h1 c1) (hf : Fresh E c c2) : Fresh E1 c1 c2 := by
  intro id ha hb
  cases hs : E1.σ id with
  | none => rfl
  | some x =>
    have := g.mono
    rcases g.dom id x hs with h | h
    · rw [hf id (by omega) hb] at h; cases h
    · omega

/-! A new row. -/
def Env.put (E : Env) (id b κ : Nat) : Env := { E with σ := fun i => if i = id then some (b, κ) else E.σ i }
theorem Env.le_put {E : Env} {id b κ : Nat} (h : E.σ id = none) : E.le (E.put id b κ) := by
  refine ⟨fun i x hx => ?_, rfl⟩
  by_cases hi : i = id
  · subst hi; rw [h] at hx; cases hx
  · simp only [Env.put, if_neg hi]; exact hx
theorem Env.put_same (E : Env) (id b κ : Nat) : (E.put id b κ).σ id = some (b, κ) := by simp [Env.put]
theorem Env.put_ne {E : Env} {id i b κ : Nat} (h : i ≠ id) : (E.put id b κ).σ i = E.σ i := by simp [Env.put, h]

/-- A block more: its row gets the next number. (k: the rows that die.) -/
theorem Goes.newRow {P : Program} {E : Env} {w w' : World} {h : Heap} {c : Nat} (hr : HR P E h w) (hf : Fresh E c (c + 1)) (r : Row) (o : Obj) (κ : Nat)
    (hw : w'.heap = w.heap.push o) (ht : w'.tape = w.tape) (hos : w'.os = w.os) (hout : w'.output = w.output)
    (ho : RowR P (E.put c w.heap.size κ) w' r w.heap.size κ) (hro : r.ro = false) (h0 : Heap)
    (hsub : ∀ id r, hget h0 id = some r → hget h id = some r) :
    Goes P E w h c (E.put c w.heap.size κ) w' (hset h0 c (some r)) (c + 1) := by
  have hc : E.σ c = none := hf c (Nat.le_refl _) (by omega)
  have hle := Env.le_put (b := w.heap.size) (κ := κ) hc
  have hold : ∀ b, b < w.heap.size → w'.heap[b]? = w.heap[b]? := fun b hb => by
    rw [hw, Array.getElem?_push, if_neg (Nat.ne_of_lt hb)]
  have hne : ∀ id r, hget h id = some r → id ≠ c := fun id r hi e => by
    obtain ⟨b, κ, h1, _⟩ := hr.row id r hi
    rw [e, hc] at h1; cases h1
  have hcase : ∀ id r', hget (hset h0 c (some r)) id = some r' → (id = c ∧ r' = r) ∨ (id ≠ c ∧ hget h id = some r') := fun id r' hi => by
    by_cases e : id = c
    · subst e; rw [hget_hset] at hi; cases hi; exact .inl ⟨rfl, rfl⟩
    · rw [hget_hset_ne _ _ e] at hi; exact .inr ⟨e, hsub id r' hi⟩
  refine ⟨hle, by omega, ?_, ⟨?_, ?_⟩, ?_, ?_, ?_, ht, hos, hout⟩
  · intro id x hx
    by_cases e : id = c
    · exact .inr ⟨by omega, by omega⟩
    · rw [Env.put_ne e] at hx; exact .inl hx
  · intro id r' hi
    rcases hcase id r' hi with ⟨rfl, rfl⟩ | ⟨hne', hi'⟩
    · exact ⟨_, _, Env.put_same _ _ _ _, ho⟩
    · obtain ⟨b, κ', h1, h2⟩ := hr.row id r' hi'
      exact ⟨b, κ', by rw [Env.put_ne hne']; exact h1, (h2.mono hle).of_block (hold b h2.lt)⟩
  · intro id id' r1 r2 b κ1 κ2 hi hi' hs hs'
    rcases hcase id r1 hi with ⟨rfl, rfl⟩ | ⟨hne1, hi1⟩ <;> rcases hcase id' r2 hi' with ⟨rfl, rfl⟩ | ⟨hne2, hi2⟩
    · rfl
    · rw [Env.put_same] at hs; cases hs
      rw [Env.put_ne hne2] at hs'
      have := hr.lt hi2 hs'; omega
    · rw [Env.put_same] at hs'; cases hs'
      rw [Env.put_ne hne1] at hs
      have := hr.lt hi1 hs; omega
    · rw [Env.put_ne hne1] at hs; rw [Env.put_ne hne2] at hs'
      exact hr.inj id id' r1 r2 b κ1 κ2 hi1 hi2 hs hs'
  · rw [hw]; simp
  · intro b hb _; exact hold b hb
  · intro id r' b κ' hi hs
    rcases hcase id r' hi with ⟨rfl, rfl⟩ | ⟨hne', hi'⟩
    · rw [Env.put_same] at hs; cases hs; exact .inl (Nat.le_refl _)
    · rw [Env.put_ne hne'] at hs; exact .inr ⟨id, r', κ', hi', hs, fun e => e, .inl rfl⟩

/-- A row is written. -/
theorem Goes.wrote {P : Program} {E : Env} {w w' : World} {h : Heap} {c : Nat} (hr : HR P E h w) {id : Nat} {r r' : Row} {b κ : Nat} (hi : hget h id = some r) (hro : r.ro = false) (hro' : r'.ro = false)
    (hs : E.σ id = some (b, κ)) (hw : ∀ b', b' ≠ b → w'.heap[b']? = w.heap[b']?) (hsz : w'.heap.size = w.heap.size) (ht : w'.tape = w.tape) (hos : w'.os = w.os) (hout : w'.output = w.output)
    (ho : RowR P E w' r' b κ) : Goes P E w h c E w' (hset h id (some r')) c := by
  have hcase : ∀ i x, hget (hset h id (some r')) i = some x → (i = id ∧ x = r') ∨ (i ≠ id ∧ hget h i = some x) := fun i x hx => by
    by_cases e : i = id
    · subst e; rw [hget_hset] at hx; cases hx; exact .inl ⟨rfl, rfl⟩
    · rw [hget_hset_ne _ _ e] at hx; exact .inr ⟨e, hx⟩
  refine ⟨.refl E, Nat.le_refl _, fun _ _ h => .inl h, ⟨?_, ?_⟩, by rw [hsz]; exact Nat.le_refl _, ?_, ?_, ht, hos, hout⟩
  · intro i x hx
    rcases hcase i x hx with ⟨rfl, rfl⟩ | ⟨hne, hi'⟩
    · exact ⟨b, κ, hs, ho⟩
    · obtain ⟨b', κ', h1, h2⟩ := hr.row i x hi'
      have : b' ≠ b := fun e => by subst e; exact hne (hr.inj i id x r b' κ' κ hi' hi h1 hs)
      exact ⟨b', κ', h1, h2.of_block (hw b' this)⟩
  · intro i j x y b' κ1 κ2 hx hy h1 h2
    rcases hcase i x hx with ⟨rfl, rfl⟩ | ⟨_, hx'⟩ <;> rcases hcase j y hy with ⟨rfl, rfl⟩ | ⟨_, hy'⟩
    · rfl
    · exact hr.inj _ _ r y b' κ1 κ2 hi hy' h1 h2
    · exact hr.inj _ _ x r b' κ1 κ2 hx' hi h1 h2
    · exact hr.inj _ _ x y b' κ1 κ2 hx' hy' h1 h2
  · intro b' hb' hoff
    exact hw b' fun e => by subst e; exact hoff id r κ hi hro hs
  · intro i x b' κ' hx h1
    rcases hcase i x hx with ⟨rfl, rfl⟩ | ⟨_, hx'⟩
    · exact .inr ⟨i, r, κ', hi, h1, fun _ => hro, .inl rfl⟩
    · exact .inr ⟨i, x, κ', hx', h1, fun e => e, .inl rfl⟩

/-- A row grows in its place: it gets the next number, its own dies. -/
theorem Goes.regrown {P : Program} {E : Env} {w w' : World} {h : Heap} {c : Nat} (hr : HR P E h w) (hf : Fresh E c (c + 1)) {id : Nat} {r r' : Row} {b κ : Nat} (hi : hget h id = some r) (hro : r.ro = false) (hro' : r'.ro = false)
    (hs : E.σ id = some (b, κ)) (hw : ∀ b', b' ≠ b → w'.heap[b']? = w.heap[b']?) (hsz : w'.heap.size = w.heap.size) (ht : w'.tape = w.tape) (hos : w'.os = w.os) (hout : w'.output = w.output)
    (ho : RowR P (E.put c b κ) w' r' b κ) : Goes P E w h c (E.put c b κ) w' (hset (hset h id none) c (some r')) (c + 1) := by
  have hc : E.σ c = none := hf c (Nat.le_refl _) (by omega)
  have hle := Env.le_put (b := b) (κ := κ) hc
  have hcase : ∀ i x, hget (hset (hset h id none) c (some r')) i = some x → (i = c ∧ x = r') ∨ (i ≠ c ∧ i ≠ id ∧ hget h i = some x) := fun i x hx => by
    by_cases e : i = c
    · subst e; rw [hget_hset] at hx; cases hx; exact .inl ⟨rfl, rfl⟩
    · rw [hget_hset_ne _ _ e] at hx
      by_cases e' : i = id
      · subst e'; rw [hget_hset] at hx; cases hx
      · rw [hget_hset_ne _ _ e'] at hx; exact .inr ⟨e, e', hx⟩
  refine ⟨hle, by omega, ?_, ⟨?_, ?_⟩, by rw [hsz]; exact Nat.le_refl _, ?_, ?_, ht, hos, hout⟩
  · intro i x hx
    by_cases e : i = c
    · exact .inr ⟨by omega, by omega⟩
    · rw [Env.put_ne e] at hx; exact .inl hx
  · intro i x hx
    rcases hcase i x hx with ⟨rfl, rfl⟩ | ⟨hne, hne', hi'⟩
    · exact ⟨_, _, Env.put_same _ _ _ _, ho⟩
    · obtain ⟨b', κ', h1, h2⟩ := hr.row i x hi'
      have : b' ≠ b := fun e => by subst e; exact hne' (hr.inj i id x r b' κ' κ hi' hi h1 hs)
      exact ⟨b', κ', by rw [Env.put_ne hne]; exact h1, (h2.mono hle).of_block (hw b' this)⟩
  · intro i j x y b' κ1 κ2 hx hy h1 h2
    rcases hcase i x hx with ⟨rfl, rfl⟩ | ⟨hn1, hn1', hx'⟩ <;> rcases hcase j y hy with ⟨rfl, rfl⟩ | ⟨hn2, hn2', hy'⟩
    · rfl
    · rw [Env.put_same] at h1; cases h1
      rw [Env.put_ne hn2] at h2
      exact absurd (hr.inj _ _ y r b κ2 κ hy' hi h2 hs) hn2'
    · rw [Env.put_same] at h2; cases h2
      rw [Env.put_ne hn1] at h1
      exact absurd (hr.inj _ _ x r b κ1 κ hx' hi h1 hs) hn1'
    · rw [Env.put_ne hn1] at h1; rw [Env.put_ne hn2] at h2
      exact hr.inj _ _ x y b' κ1 κ2 hx' hy' h1 h2
  · intro b' hb' hoff
    exact hw b' fun e => by subst e; exact hoff id r κ hi hro hs
  · intro i x b' κ' hx h1
    rcases hcase i x hx with ⟨rfl, rfl⟩ | ⟨hn1, _, hx'⟩
    · rw [Env.put_same] at h1; cases h1
      exact .inr ⟨id, r, κ, hi, hs, fun _ => hro, .inr hro⟩
    · rw [Env.put_ne hn1] at h1
      exact .inr ⟨i, x, κ', hx', h1, fun e => e, .inl rfl⟩
end Go.Proofs.YtnnilbambpfhiaaGreatDoor.Ev
