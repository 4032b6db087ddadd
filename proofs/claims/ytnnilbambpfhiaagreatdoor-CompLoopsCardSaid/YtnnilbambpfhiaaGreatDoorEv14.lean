/-
  Regions that draw their order: operations that don't meet may change places.
-/
import Derived.Test.YtnnilbambpfhiaaGreatDoorEv13
namespace Go.Proofs.YtnnilbambpfhiaaGreatDoor.Ev
open Go

structure FF (E : Env) (nt : Nat) (T : Nat → Option AV) (a : Act) : Prop where
  tmp : ∀ i v, T i = some v → AVR E v (a.tmps.getD i undef)
  size : a.tmps.size = nt
  defers : a.defers = []
theorem FF.mono' {E E' : Env} {nt : Nat} {T : Nat → Option AV} {a : Act} (h : FF E nt T a) (hle : E.le E') : FF E' nt T a := ⟨fun i v hi => (h.tmp i v hi).mono hle, h.size, h.defers⟩
theorem FR.toF {E : Env} {nt : Nat} {t : Tmps} {a : Act} (h : FR E nt t a) : FF E nt (tget t) a := ⟨h.tmp, h.size, h.defers⟩
theorem FF.toR {E : Env} {nt : Nat} {t : Tmps} {a : Act} (h : FF E nt (tget t) a) : FR E nt t a := ⟨h.tmp, h.size, h.defers⟩
/-- as Goes, the rows by a function, the new numbers by a condition -/
structure GF (P : Program) (E : Env) (w : World) (H : Nat → Option Row) (E' : Env) (w' : World) (H' : Nat → Option Row) (N : Nat → Prop) : Prop where
  le : E.le E'
  dom : ∀ id x, E'.σ id = some x → E.σ id = some x ∨ N id
  hr : HF P E' H' w'
  size : w.heap.size ≤ w'.heap.size
  keep : ∀ b, b < w.heap.size → OffF E H b → w'.heap[b]? = w.heap[b]?
  prov : ∀ id r b κ, H' id = some r → E'.σ id = some (b, κ) → w.heap.size ≤ b ∨
    ∃ id0 r0 κ0, H id0 = some r0 ∧ E.σ id0 = some (b, κ0) ∧ (r.ro = false → r0.ro = false) ∧ (id0 = id ∨ r0.ro = false)
  tape : w'.tape = w.tape
  os : w'.os = w.os
  output : w'.output = w.output
theorem Goes.toF {P : Program} {E : Env} {w : World} {h : Heap} {c : Nat} {E' : Env} {w' : World} {h' : Heap} {c' : Nat} (g : Goes P E w h c E' w' h' c') : GF P E w (hget h) E' w' (hget h') (fun id => c ≤ id ∧ id < c') :=
  ⟨g.le, g.dom, g.hr, g.size, g.keep, g.prov, g.tape, g.os, g.output⟩
theorem GF.toGoes {P : Program} {E : Env} {w : World} {h : Heap} {c : Nat} {E' : Env} {w' : World} {h' : Heap} {c' : Nat} {N : Nat → Prop} (g : GF P E w (hget h) E' w' (hget h') N) (hN : ∀ id, N id → c ≤ id ∧ id < c') (hc : c ≤ c') : Goes P E w h c E' w' h' c' :=
  ⟨g.le, hc, fun id x hx => (g.dom id x hx).imp (fun h => h) (hN id), g.hr, g.size, g.keep, g.prov, g.tape, g.os, g.output⟩
theorem GF.refl {P : Program} {E : Env} {w : World} {H : Nat → Option Row} (hr : HF P E H w) : GF P E w H E w H (fun _ => False) :=
  ⟨.refl E, fun _ _ h => .inl h, hr, Nat.le_refl _, fun _ _ _ => rfl, fun id r _ κ hi hs => .inr ⟨id, r, κ, hi, hs, fun e => e, .inl rfl⟩, rfl, rfl, rfl⟩
theorem GF.trans {P : Program} {E E1 E2 : Env} {w w1 w2 : World} {H H1 H2 : Nat → Option Row} {N N' : Nat → Prop} (g : GF P E w H E1 w1 H1 N) (g' : GF P E1 w1 H1 E2 w2 H2 N') : GF P E w H E2 w2 H2 (fun id => N id ∨ N' id) where
  le := g.le.trans g'.le
  dom := fun id x hx => by
    rcases g'.dom id x hx with h | h
    · rcases g.dom id x h with h | h
      · exact .inl h
      · exact .inr (.inl h)
    · exact .inr (.inr h)
  hr := g'.hr
  size := Nat.le_trans g.size g'.size
  keep := fun b hb ho => by
    rw [g'.keep b (Nat.lt_of_lt_of_le hb g.size) ?_, g.keep b hb ho]
    intro id r κ hi hro hs
    rcases g.prov id r b κ hi hs with h | ⟨id0, r0, κ0, h1, h2, h3, _⟩
    · omega
    · exact ho id0 r0 κ0 h1 (h3 hro) h2
  prov := fun id r b κ hi hs => by
    rcases g'.prov id r b κ hi hs with h | ⟨id0, r0, κ0, h1, h2, h3, h3'⟩
    · exact .inl (Nat.le_trans g.size h)
    · rcases g.prov id0 r0 b κ0 h1 h2 with h | ⟨id1, r1, κ1, h4, h5, h6, h6'⟩
      · exact .inl h
      · refine .inr ⟨id1, r1, κ1, h4, h5, fun e => h6 (h3 e), ?_⟩
        rcases h3' with e | e
        · subst e; exact h6'
        · exact .inr (h6 e)
  tape := g'.tape.trans g.tape
  os := g'.os.trans g.os
  output := g'.output.trans g.output

/-- An operation, as it was done: what it looked at, what it turned. -/
structure Itm where
  i : Nat
  o : Oper
  c : Nat
  c1 : Nat
  v : AV
  Tin : Nat → Option AV
  W : Nat → Prop
  Hin : Nat → Option Row
  Hout : Nat → Option Row
section
variable (ops : Array Oper)
structure App (it : Itm) (T : Nat → Option AV) (H : Nat → Option Row) : Prop where
  looks : ∀ t, t ∈ looks ops it.o → T t = it.Tin t
  own : ∀ id, it.W id → H id = it.Hin id
  seen : ∀ id r, ¬ it.W id → it.Hin id = some r → ∃ r0, H id = some r0 ∧ r = roRow r0
def updT (it : Itm) (T : Nat → Option AV) : Nat → Option AV := fun j => if it.o.dst = some j then some it.v else T j
open Classical in
noncomputable def updH (it : Itm) (H : Nat → Option Row) : Nat → Option Row := fun id => if it.W id then it.Hout id else H id
structure Ind (p q : Itm) : Prop where
  s1 : ∀ d, p.o.dst = some d → d ∉ looks ops q.o
  s2 : ∀ d, p.o.dst = some d → q.o.dst ≠ some d
  s3 : ∀ d, q.o.dst = some d → d ∉ looks ops p.o
  h1 : ∀ id, p.W id → ¬ q.W id
  h2 : ∀ id, p.W id → q.Hin id = none
  h3 : ∀ id, q.W id → p.Hin id = none
variable {ops}
theorem swap {p q : Itm} {T : Nat → Option AV} {H : Nat → Option Row} (hp : App ops p T H) (hq : App ops q (updT p T) (updH p H)) (hi : Ind ops p q) :
    App ops q T H ∧ App ops p (updT q T) (updH q H) ∧ updT p (updT q T) = updT q (updT p T) ∧ updH p (updH q H) = updH q (updH p H) := by
  have eT : ∀ t, t ∈ looks ops q.o → updT p T t = T t := fun t ht => by
    unfold updT; rw [if_neg]; intro e; exact hi.s1 t e ht
  have eT' : ∀ t, t ∈ looks ops p.o → updT q T t = T t := fun t ht => by
    unfold updT; rw [if_neg]; intro e; exact hi.s3 t e ht
  have eH : ∀ id, ¬ p.W id → updH p H id = H id := fun id h => by unfold updH; rw [if_neg h]
  have eH' : ∀ id, ¬ q.W id → updH q H id = H id := fun id h => by unfold updH; rw [if_neg h]
  refine ⟨⟨fun t ht => by rw [← eT t ht]; exact hq.looks t ht, fun id hw => ?_, fun id r hw hin => ?_⟩, ⟨fun t ht => by rw [eT' t ht]; exact hp.looks t ht, fun id hw => ?_, fun id r hw hin => ?_⟩, ?_, ?_⟩
  · rw [← eH id (fun h => hi.h1 id h hw)]; exact hq.own id hw
  · have hn : ¬ p.W id := fun h => by rw [hi.h2 id h] at hin; cases hin
    rw [← eH id hn]; exact hq.seen id r hw hin
  · rw [eH' id (hi.h1 id hw)]; exact hp.own id hw
  · have hn : ¬ q.W id := fun h => by rw [hi.h3 id h] at hin; cases hin
    rw [eH' id hn]; exact hp.seen id r hw hin
  · funext j
    unfold updT
    by_cases h1 : p.o.dst = some j
    · have h2 : q.o.dst ≠ some j := hi.s2 j h1
      simp [h1, h2]
    · simp [h1]
  · funext id
    unfold updH
    by_cases h1 : p.W id
    · have h2 := hi.h1 id h1
      simp [h1, h2]
    · simp [h1]
def Exec (ops : Array Oper) (Tf : Nat → Option AV) (Hf : Nat → Option Row) : List Itm → (Nat → Option AV) → (Nat → Option Row) → Prop
  | [], T, H => T = Tf ∧ H = Hf
  | it :: r, T, H => App ops it T H ∧ Exec ops Tf Hf r (updT it T) (updH it H)
theorem toFront {Tf : Nat → Option AV} {Hf : Nat → Option Row} {it : Itm} {r2 : List Itm} : ∀ (r1 : List Itm) (T : Nat → Option AV) (H : Nat → Option Row), Exec ops Tf Hf (r1 ++ it :: r2) T H → (∀ x ∈ r1, Ind ops x it) →
    App ops it T H ∧ Exec ops Tf Hf (r1 ++ r2) (updT it T) (updH it H)
  | [], T, H, hx, _ => hx
  | x :: r1, T, H, hx, hi => by
    obtain ⟨h1, h2⟩ := hx
    obtain ⟨h3, h4⟩ := toFront r1 _ _ h2 (fun y hy => hi y (by simp [hy]))
    obtain ⟨a, b, c, d⟩ := swap h1 h3 (hi x (by simp))
    refine ⟨a, b, ?_⟩
    rw [c, d]; exact h4
end

/-- An operation is done rightly wherever what it looks at stands. -/
def Good (X : Ctx) (nt : Nat) (ops : Array Oper) (it : Itm) : Prop := ops[it.i]? = some it.o ∧
  ∀ (E : Env) (w : World) (a : Act) (T : Nat → Option AV) (H : Nat → Option Row) (next : Act → World → Prop) (Q : Go.Exit → Act → World → Prop), EOk X E → FF E nt T a → HF X.P E H w → App ops it T H → Fresh E it.c it.c1 →
    (∀ a' w' E', FF E' nt (updT it T) a' → GF X.P E w H E' w' (updH it H) (fun id => it.c ≤ id ∧ id < it.c1) → next a' w') → wpOp X.P ops Q it.i next a w

theorem ready_iff {ops : Array Oper} {listed : Array Bool} {i : Nat} : i ∈ Region.ready .any ops listed ↔ i < ops.size ∧ listed.getD i true = false ∧ ∃ o, ops[i]? = some o ∧ ∀ e ∈ edgesOf o, listed.getD e false = true := by
  unfold Region.ready
  simp only [List.mem_filter, List.mem_range, Bool.and_eq_true, Bool.not_eq_true']
  constructor
  · rintro ⟨h1, h2, h3⟩
    refine ⟨h1, h2, ?_⟩
    cases ho : ops[i]? with
    | none => rw [ho] at h3; cases h3
    | some o =>
      rw [ho] at h3
      refine ⟨o, rfl, fun e he => ?_⟩
      simp only [Option.map_some, Option.getD_some, Array.all_eq_true_iff_forall_mem] at h3
      unfold edgesOf at he
      simp only [List.mem_map, List.mem_filter] at he
      obtain ⟨g, ⟨hg1, hg2⟩, rfl⟩ := he
      have := h3 g (by simpa using hg1)
      rw [hg2] at this
      simpa using this
  · rintro ⟨h1, h2, o, ho, h3⟩
    refine ⟨h1, h2, ?_⟩
    rw [ho]
    simp only [Option.map_some, Option.getD_some, Array.all_eq_true_iff_forall_mem]
    intro g hg
    cases hb : Region.binds .any g with
    | false => rfl
    | true =>
      have : g.on ∈ edgesOf o := by
        unfold edgesOf
        simp only [List.mem_map, List.mem_filter]
        exact ⟨g, ⟨by simpa using hg, hb⟩, rfl⟩
      simp [h3 g.on this]

/-- what is known of the operations that are left -/
structure Left (X : Ctx) (nt : Nat) (ops : Array Oper) (bf : Nat → Nat → Prop) (listed : Array Bool) (rem : List Itm) : Prop where
  good : ∀ it ∈ rem, Good X nt ops it
  pair : rem.Pairwise fun x y => bf y.i x.i ∨ Ind ops x y
  apart : rem.Pairwise fun x y => x.i ≠ y.i ∧ (∀ id, ¬ ((x.c ≤ id ∧ id < x.c1) ∧ (y.c ≤ id ∧ id < y.c1)))
  all : ∀ i, i < ops.size → (listed.getD i true = false ↔ ∃ it ∈ rem, it.i = i)
  topo : ∀ r1 it r2, rem = r1 ++ it :: r2 → ∀ k, bf it.i k → listed.getD k false = true ∨ ∃ x ∈ r1, x.i = k
  size : listed.size = ops.size
/-- the order's table: the direct edges' ends, and what stands ahead of them -/
structure BfOk (ops : Array Oper) (bf : Nat → Nat → Prop) : Prop where
  up : ∀ i o k, ops[i]? = some o → bf i k → ∃ e ∈ edgesOf o, k = e ∨ bf e k
  edge : ∀ i o e, ops[i]? = some o → e ∈ edgesOf o → bf i e

theorem draw_any {X : Ctx} {nt : Nat} {ops : Array Oper} {bf : Nat → Nat → Prop} (hb : BfOk ops bf) {Q : Go.Exit → Act → World → Prop} {E0 : Env} {w0 : World} {H0 : Nat → Option Row} {Tf : Nat → Option AV} {Hf : Nat → Option Row} {N : Nat → Prop}
    (hQ : ∀ a w E, FF E nt Tf a → GF X.P E0 w0 H0 E w Hf N → Q .normal a w) :
    ∀ (fuel : Nat) (listed : Array Bool) (rem : List Itm) (E : Env) (a : Act) (w : World) (T : Nat → Option AV) (H : Nat → Option Row) (M : Nat → Prop),
      rem.length = fuel → Left X nt ops bf listed rem → (∀ j, listed.getD j false = true → ∀ k, bf j k → listed.getD k false = true) →
      EOk X E → FF E nt T a → GF X.P E0 w0 H0 E w H M → (∀ id, M id → N id) → (∀ it ∈ rem, ∀ id, it.c ≤ id → id < it.c1 → N id) → (∀ it ∈ rem, Fresh E it.c it.c1) →
      Exec ops Tf Hf rem T H → wpAny X.P .any ops Q fuel listed a w := by
  intro fuel
  induction fuel with
  | zero =>
    intro listed rem E a w T H M hlen hL hcl he hfr hg hM hN hfresh hex
    have : rem = [] := List.eq_nil_of_length_eq_zero hlen
    subst this
    obtain ⟨rfl, rfl⟩ := hex
    refine ⟨?_, hQ a w E hfr ⟨hg.le, fun id x hx => (hg.dom id x hx).imp (fun h => h) (hM id), hg.hr, hg.size, hg.keep, hg.prov, hg.tape, hg.os, hg.output⟩⟩
    apply List.eq_nil_iff_forall_not_mem.2
    intro i hi
    obtain ⟨h1, h2, _⟩ := ready_iff.1 hi
    obtain ⟨it, hit, _⟩ := (hL.all i h1).1 h2
    cases hit
  | succ fuel ih =>
    intro listed rem E a w T H M hlen hL hcl he hfr hg hM hN hfresh hex
    refine ⟨fun hr => ?_, fun i hi => ?_⟩
    · exfalso
      match rem, hlen, hL with
      | it :: r, _, hL =>
        have hgood := (hL.good it (by simp)).1
        have hlt : it.i < ops.size := by
          rcases Nat.lt_or_ge it.i ops.size with h | h
          · exact h
          · rw [Array.getElem?_eq_none h] at hgood; cases hgood
        have : it.i ∈ Region.ready .any ops listed := ready_iff.2 ⟨hlt, (hL.all it.i hlt).2 ⟨it, by simp, rfl⟩, it.o, hgood, fun e he => by
          rcases hL.topo [] it r rfl e (hb.edge _ _ _ hgood he) with h | ⟨x, hx, _⟩
          · exact h
          · cases hx⟩
        rw [hr] at this; cases this
    · obtain ⟨h1, h2, o, ho, hedge⟩ := ready_iff.1 hi
      obtain ⟨it, hit, rfl⟩ := (hL.all i h1).1 h2
      obtain ⟨r1, r2, rfl⟩ := List.append_of_mem hit
      have hgood := hL.good it hit
      have hun : ∀ x ∈ r1, listed.getD x.i false = false := by
        intro x hx
        have hxg := (hL.good x (by simp [hx])).1
        have hlt : x.i < ops.size := by
          rcases Nat.lt_or_ge x.i ops.size with h | h
          · exact h
          · rw [Array.getElem?_eq_none h] at hxg; cases hxg
        have h3 := (hL.all x.i hlt).2 ⟨x, by simp [hx], rfl⟩
        have hl : x.i < listed.size := by rw [hL.size]; exact hlt
        simp only [Array.getD_eq_getD_getElem?, Array.getElem?_eq_getElem hl, Option.getD_some] at h3 ⊢
        exact h3
      have hInd : ∀ x ∈ r1, Ind ops x it := by
        intro x hx
        have hp := (List.pairwise_append.1 hL.pair).2.2 x hx it (by simp)
        rcases hp with hbx | hp
        · exfalso
          obtain ⟨e, he1, he2⟩ := hb.up _ _ _ hgood.1 hbx
          have hoo : o = it.o := Option.some.inj (ho.symm.trans hgood.1)
          have hle := hedge e (hoo ▸ he1)
          have : listed.getD x.i false = true := by
            rcases he2 with h | h
            · rw [h]; exact hle
            · exact hcl e hle _ h
          rw [hun x hx] at this; cases this
        · exact hp
      obtain ⟨happ, hex'⟩ := toFront r1 T H hex hInd
      refine hgood.2 E w a T H _ Q he hfr hg.hr happ (hfresh it hit) ?_
      intro a' w' E' hfr' hg'
      have hap := List.pairwise_append.1 hL.apart
      have hap2 := List.pairwise_cons.1 hap.2.1
      have hget : ∀ (k : Nat) (d : Bool), k ≠ it.i → (listed.setIfInBounds it.i true).getD k d = listed.getD k d := fun k d hk => by
        simp only [Array.getD_eq_getD_getElem?, Array.getElem?_setIfInBounds_ne (Ne.symm hk)]
      have hself : ∀ d : Bool, (listed.setIfInBounds it.i true).getD it.i d = true := fun d => by
        have hl : it.i < listed.size := by rw [hL.size]; exact h1
        simp [Array.getD_eq_getD_getElem?, hl]
      refine ih _ (r1 ++ r2) E' a' w' _ _ (fun id => M id ∨ (it.c ≤ id ∧ id < it.c1)) (by simp at hlen ⊢; omega) ⟨?_, ?_, ?_, ?_, ?_, ?_⟩ ?_ (he.mono hg'.le) hfr' (hg.trans hg') ?_ ?_ ?_ hex'
      · intro x hx
        refine hL.good x ?_
        rcases List.mem_append.1 hx with h | h <;> simp [h]
      · have := hL.pair
        exact this.sublist (List.Sublist.append_left (List.sublist_cons_self _ _) _)
      · have := hL.apart
        exact this.sublist (List.Sublist.append_left (List.sublist_cons_self _ _) _)
      · intro k hk
        by_cases hki : k = it.i
        · subst hki
          rw [hself]
          refine ⟨fun h => (by cases h), ?_⟩
          rintro ⟨x, hx, hxi⟩
          exfalso
          rcases List.mem_append.1 hx with h | h
          · exact (hap.2.2 x h it (by simp)).1 hxi
          · exact (hap2.1 x h).1 hxi.symm
        · rw [hget _ _ hki, hL.all k hk]
          constructor
          · rintro ⟨x, hx, rfl⟩
            rcases List.mem_append.1 hx with h | h
            · exact ⟨x, by simp [h], rfl⟩
            · rcases List.mem_cons.1 h with rfl | h
              · exact absurd rfl hki
              · exact ⟨x, by simp [h], rfl⟩
          · rintro ⟨x, hx, rfl⟩
            refine ⟨x, ?_, rfl⟩
            rcases List.mem_append.1 hx with h | h <;> simp [h]
      · intro s1 x s2 hs k hk
        have hmem : x ∈ r1 ++ r2 := by rw [hs]; simp
        by_cases hki : k = it.i
        · subst hki; exact .inl (hself _)
        · rw [hget _ _ hki]
          rcases List.append_eq_append_iff.1 hs with ⟨u, hu1, hu2⟩ | ⟨u, hu1, hu2⟩
          · -- s1 = r1 ++ u
            have := hL.topo (r1 ++ it :: u) x s2 (by rw [hu2]; simp) k hk
            rcases this with h | ⟨y, hy, hyk⟩
            · exact .inl h
            · right
              refine ⟨y, ?_, hyk⟩
              rw [hu1]
              rcases List.mem_append.1 hy with h | h
              · simp [h]
              · rcases List.mem_cons.1 h with rfl | h
                · exact absurd hyk.symm hki
                · simp [h]
          · -- r1 = s1 ++ u
            cases u with
            | nil =>
              simp only [List.append_nil] at hu1
              simp only [List.nil_append] at hu2
              have := hL.topo (r1 ++ [it]) x s2 (by rw [← hu2]; simp) k hk
              rcases this with h | ⟨y, hy, hyk⟩
              · exact .inl h
              · right
                refine ⟨y, ?_, hyk⟩
                rw [← hu1]
                rcases List.mem_append.1 hy with h | h
                · exact h
                · rcases List.mem_cons.1 h with rfl | h
                  · exact absurd hyk.symm hki
                  · cases h
            | cons z u =>
              simp only [List.cons_append, List.cons.injEq] at hu2
              obtain ⟨rfl, hu2⟩ := hu2
              exact hL.topo s1 x (u ++ it :: r2) (by rw [hu1]; simp) k hk
      · simp [hL.size]
      · intro j hj k hk
        by_cases hki : k = it.i
        · subst hki; exact hself _
        · rw [hget _ _ hki]
          by_cases hji : j = it.i
          · subst hji
            obtain ⟨e, he1, he2⟩ := hb.up _ _ _ hgood.1 hk
            have hoo : o = it.o := Option.some.inj (ho.symm.trans hgood.1)
            have hle := hedge e (hoo ▸ he1)
            rcases he2 with h | h
            · rw [h]; exact hle
            · exact hcl e hle _ h
          · rw [hget _ _ hji] at hj; exact hcl j hj k hk
      · rintro id (h | h)
        · exact hM id h
        · exact hN it hit id h.1 h.2
      · intro x hx id h3 h4
        refine hN x ?_ id h3 h4
        rcases List.mem_append.1 hx with h | h <;> simp [h]
      · intro x hx id h3 h4
        cases hs : E'.σ id with
        | none => rfl
        | some y =>
          rcases hg'.dom id y hs with h | h
          · rw [hfresh x (by rcases List.mem_append.1 hx with h | h <;> simp [h]) id h3 h4] at h; cases h
          · exfalso
            rcases List.mem_append.1 hx with hm | hm
            · exact (hap.2.2 x hm it (by simp)).2 id ⟨⟨h3, h4⟩, h⟩
            · exact (hap2.1 x hm).2 id ⟨h, ⟨h3, h4⟩⟩
end Go.Proofs.YtnnilbambpfhiaaGreatDoor.Ev
