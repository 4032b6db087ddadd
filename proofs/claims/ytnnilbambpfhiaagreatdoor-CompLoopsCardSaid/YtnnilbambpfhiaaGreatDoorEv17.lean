/-
  Regions that draw their order: the plan, the region's wp.
-/
import Derived.Test.YtnnilbambpfhiaaGreatDoorEv16
namespace Go.Proofs.YtnnilbambpfhiaaGreatDoor.Ev
open Go

theorem bit_eq (m i : Nat) : bit m i = m.testBit i := by
  unfold bit Nat.testBit
  have e : Nat.land (Nat.shiftRight m i) 1 = 1 &&& (m >>> i) := by
    show (m >>> i) &&& 1 = _
    rw [Nat.and_comm]
  rw [e]
  have : 1 &&& (m >>> i) = (m >>> i) % 2 := by rw [Nat.and_comm, Nat.and_one_is_mod]
  rw [this]
  have h2 : (m >>> i) % 2 < 2 := Nat.mod_lt _ (by omega)
  rcases (by omega : (m >>> i) % 2 = 0 ∨ (m >>> i) % 2 = 1) with h | h <;> rw [h] <;> rfl
theorem bit_one (i k : Nat) : bit (one_ i) k = true ↔ k = i := by
  rw [bit_eq]
  show (1 <<< i).testBit k = true ↔ _
  rw [Nat.testBit_shiftLeft]
  rw [Bool.and_eq_true, Nat.testBit_one_eq_true_iff_self_eq_zero, decide_eq_true_eq]
  omega
theorem bit_or (a b k : Nat) : bit (Nat.lor a b) k = true ↔ bit a k = true ∨ bit b k = true := by
  rw [bit_eq, bit_eq, bit_eq]
  show (a ||| b).testBit k = true ↔ _
  rw [Nat.testBit_or]; simp
theorem bit_zero (k : Nat) : bit 0 k = false := by rw [bit_eq]; simp
theorem bit_sub {b d k : Nat} (h : Nat.beq (Nat.land b d) b = true) (hk : bit b k = true) : bit d k = true := by
  have e : b &&& d = b := (nbeq_iff _ _).1 h
  rw [bit_eq] at hk ⊢
  have := congrArg (·.testBit k) e
  simp only [Nat.testBit_and, hk, Bool.true_and] at this
  exact this
theorem bit_orAll (b : List Nat) (k : Nat) : ∀ l, bit (orAll b l) k = true ↔ ∃ e ∈ l, k = e ∨ bit (b.getD e 0) k = true
  | [] => by simp [orAll, bit_zero]
  | e :: r => by
    simp only [orAll, bit_or, bit_one, bit_orAll b k r, List.mem_cons, exists_eq_or_imp]
def bfOf (ops : Array Oper) (i k : Nat) : Prop := bit ((befores ops.toList []).getD i 0) k = true
theorem bOk_spec {b : List Nat} : ∀ {l : List Oper} {i : Nat}, bOk b l i = true → ∀ j o, l[j]? = some o → b.getD (i + j) 0 = orAll b (edgesOf o)
  | [], _, _, j, o, hj => by simp at hj
  | x :: r, i, h, j, o, hj => by
    simp only [bOk] at h
    split at h <;> first | (cases h; done) | skip
    rename_i h1 _
    cases j with
    | zero => simp at hj; subst hj; exact (nbeq_iff _ _).1 h1
    | succ j =>
      simp at hj
      have := bOk_spec h j o hj
      rwa [show i + 1 + j = i + (j + 1) by omega] at this
theorem bfOk_of {ops : Array Oper} (h : bOk (befores ops.toList []) ops.toList 0 = true) : BfOk ops (bfOf ops) := by
  have key : ∀ i o, ops[i]? = some o → (befores ops.toList []).getD i 0 = orAll (befores ops.toList []) (edgesOf o) := fun i o ho => by
    have := bOk_spec h i o (by simpa using ho)
    rwa [Nat.zero_add] at this
  refine ⟨fun i o k ho hk => ?_, fun i o e ho he => ?_⟩
  · unfold bfOf at hk
    rw [key i o ho, bit_orAll] at hk
    exact hk
  · unfold bfOf
    rw [key i o ho, bit_orAll]
    exact ⟨e, he, .inl rfl⟩

/-- a plan, the last one first: each item is as the table of those ahead of it says -/
inductive PlanP (ops : Array Oper) (b : List Nat) : List PI → Prop where
  | nil : PlanP ops b []
  | cons {p l} (t : PlanP ops b l) (ho : ops[p.i]? = some p.o) (hc : confOf ops (b.getD p.i 0) p.o l = some p.conf) : PlanP ops b (p :: l)
theorem nthO_eq : ∀ (l : List Oper) n, nthO l n = l[n]?
  | [], 0 => rfl
  | [], _ + 1 => rfl
  | _ :: _, 0 => rfl
  | _ :: r, n + 1 => (nthO_eq r n).trans (by simp)
theorem planGo_ok {ops : Array Oper} {b : List Nat} : ∀ {is : List Nat} {acc l : List PI}, planGo ops b is acc = some l → PlanP ops b acc → PlanP ops b l
  | [], acc, l, h, hp => by simp only [planGo, Option.some.injEq] at h; subst h; exact hp
  | i :: r, acc, l, h, hp => by
    simp only [planGo] at h
    cases h1 : nthO ops.toList i with
    | none => rw [h1] at h; cases h
    | some o =>
      rw [h1] at h
      simp only at h
      cases h2 : confOf ops (b.getD i 0) o acc with
      | none => rw [h2] at h; cases h
      | some cf =>
        rw [h2] at h
        simp only at h
        rw [nthO_eq] at h1
        exact planGo_ok h (.cons hp (by simpa using h1) h2)
theorem PlanP.suffix {ops : Array Oper} {b : List Nat} : ∀ {l1 l2 : List PI}, PlanP ops b (l1 ++ l2) → PlanP ops b l2
  | [], _, h => h
  | _ :: l1, _, .cons t _ _ => PlanP.suffix (l1 := l1) t
theorem confOf_spec {ops : Array Oper} {b : Nat} {o : Oper} : ∀ {l : List PI} {cf : List Nat}, confOf ops b o l = some cf → ∀ q ∈ l, bit b q.i = true ∨
    (slotsApart ops q.o o = true ∧ ((kindOf q.o.op).meet (kindOf o.op) = false ∨ ((kindOf q.o.op).isCall = false ∧ q.i ∈ cf)))
  | [], _, _, q, hq => by cases hq
  | p :: r, cf, h, q, hq => by
    simp only [confOf] at h
    cases h1 : confOf ops b o r with
    | none => rw [h1] at h; cases h
    | some l =>
      rw [h1] at h
      simp only at h
      have ih := confOf_spec h1
      have wide : ∀ q ∈ r, (∀ x, x ∈ l → x ∈ cf) → bit b q.i = true ∨ (slotsApart ops q.o o = true ∧ ((kindOf q.o.op).meet (kindOf o.op) = false ∨ ((kindOf q.o.op).isCall = false ∧ q.i ∈ cf))) := by
        intro q hq hs
        rcases ih q hq with h | ⟨h, h'⟩
        · exact .inl h
        · exact .inr ⟨h, h'.imp (fun e => e) fun e => ⟨e.1, hs _ e.2⟩⟩
      split at h
      · rename_i hb
        cases h
        rcases List.mem_cons.1 hq with rfl | hq
        · exact .inl hb
        · exact wide q hq fun x hx => hx
      · split at h <;> first | (cases h; done) | skip
        rename_i hs
        split at h
        · rename_i hm
          cases h
          rcases List.mem_cons.1 hq with rfl | hq
          · exact .inr ⟨hs, .inl hm⟩
          · exact wide q hq fun x hx => hx
        · split at h <;> first | (cases h; done) | skip
          rename_i hc
          cases h
          rcases List.mem_cons.1 hq with rfl | hq
          · exact .inr ⟨hs, .inr ⟨hc, by simp⟩⟩
          · exact wide q hq fun x hx => by simp [hx]
theorem revP_eq : ∀ (l acc : List PI), revP l acc = l.reverse ++ acc
  | [], acc => rfl
  | x :: r, acc => by simp [revP, revP_eq r (x :: acc)]
theorem slots_spec {ops : Array Oper} {x y : Oper} (h : slotsApart ops x y = true) : (∀ d, x.dst = some d → d ∉ looks ops y) ∧ (∀ d, x.dst = some d → y.dst ≠ some d) ∧ (∀ d, y.dst = some d → d ∉ looks ops x) := by
  unfold slotsApart at h
  split at h <;> first | (cases h; done) | skip
  rename_i h1 h2 h3
  refine ⟨fun d hd => (disj_iff _ _).1 h1 d (by simp [dsts, hd]), fun d hd hy => ?_, fun d hd => (disj_iff _ _).1 h3 d (by simp [dsts, hd])⟩
  exact (disj_iff _ _).1 h2 d (by simp [dsts, hd]) (by simp [dsts, hy])
theorem meet_false {a b : HK} (h : a.meet b = false) : a = .no ∨ b = .no ∨ (a = .rd ∧ b = .rd) := by
  cases a <;> cases b <;> first | (cases h; done) | simp

theorem drawA_cons (X : Ctx) (callF : CallF) (nt : Nat) (ops : Array Oper) (p : PI) (r : List PI) (t : Tmps) (h : Heap) (c : Nat) (fs : Foots) :
    drawA X callF nt ops (p :: r) t h c fs = (drawOne X callF nt ops p t h c fs).bind (drawA X callF nt ops r) := rfl
/-- what is known of the items that are done -/
structure Past (ops : Array Oper) (doneRev : List PI) (ex : List Itm) (fs : Foots) (mask : Nat) : Prop where
  each : ∀ q ∈ doneRev, ∃ x ∈ ex, x.i = q.i
  back : ∀ x ∈ ex, ∃ q ∈ doneRev, x.i = q.i ∧ x.o = q.o
  foot : ∀ x ∈ ex, ∃ g, footOf fs x.i = some g ∧ ((kindOf x.o.op).isCall = false → FootOk x g)
  kind : ∀ x ∈ ex, KindOk x
  mask : ∀ k, bit mask k = true ↔ ∃ x ∈ ex, x.i = k
theorem drawA_items {X : Ctx} {callF : CallF} (hnum : NoNum X.P) (hcall : CallOk X callF) {nt : Nat} {ops : Array Oper} {b : List Nat} (hbf : ∀ i k, bfOf ops i k ↔ bit (b.getD i 0) k = true) :
    ∀ (rest doneRev : List PI) (ex : List Itm) (mask : Nat) {t : Tmps} {h : Heap} {c : Nat} {fs : Foots} {t' : Tmps} {h' : Heap} {c' : Nat},
      PlanP ops b (rest.reverse ++ doneRev) → topo b rest mask = true → Past ops doneRev ex fs mask → drawA X callF nt ops rest t h c fs = .ok t' h' c' →
      ∃ its : List Itm, its.map (·.i) = rest.map (·.i) ∧ c ≤ c' ∧ Exec ops (tget t') (hget h') its (tget t) (hget h) ∧ (∀ it ∈ its, Good X nt ops it) ∧
        (its.Pairwise fun x y => bfOf ops y.i x.i ∨ Ind ops x y) ∧ (its.Pairwise fun x y => x.i ≠ y.i ∧ x.c1 ≤ y.c) ∧ (∀ it ∈ its, c ≤ it.c ∧ it.c ≤ it.c1 ∧ it.c1 ≤ c') ∧
        (∀ x ∈ ex, ∀ y ∈ its, x.i ≠ y.i ∧ (bfOf ops y.i x.i ∨ Ind ops x y)) ∧
        (∀ r1 it r2, its = r1 ++ it :: r2 → ∀ k, bfOf ops it.i k → (∃ x ∈ ex, x.i = k) ∨ ∃ x ∈ r1, x.i = k)
  | [], doneRev, ex, mask, t, h, c, fs, t', h', c', hP, htopo, hpast, hx => by
    have : RS.ok t h c = .ok t' h' c' := hx
    cases this
    exact ⟨[], rfl, Nat.le_refl _, ⟨rfl, rfl⟩, fun _ h => (by cases h), .nil, .nil, fun _ h => (by cases h), fun _ _ _ h => (by cases h), fun r1 it r2 h => by cases r1 <;> cases h⟩
  | p :: rest, doneRev, ex, mask, t, h, c, fs, t', h', c', hP, htopo, hpast, hx => by
    rw [drawA_cons] at hx
    cases h1 : drawOne X callF nt ops p t h c fs with
    | bad => rw [h1] at hx; cases hx
    | ok t1 h1' c1 fs1 =>
      rw [h1] at hx
      have hx' : drawA X callF nt ops rest t1 h1' c1 fs1 = .ok t' h' c' := hx
      have hP' : PlanP ops b (rest.reverse ++ (p :: doneRev)) := by simpa using hP
      have hPp := PlanP.suffix hP'
      cases hPp with
      | cons hPd ho hconf =>
        obtain ⟨it, hd⟩ := drawOne_item hnum hcall ho h1
        simp only [topo] at htopo
        split at htopo <;> first | (cases htopo; done) | skip
        rename_i htm htb
        have hpi : ∀ x ∈ ex, x.i ≠ p.i := fun x hx e => by
          have := (hpast.mask p.i).2 ⟨x, hx, e⟩
          rw [this] at htm; cases htm
        obtain ⟨g, hg1, hg2⟩ := hd.fs'
        -- the new item against those that are done
        have hcross : ∀ x ∈ ex, bfOf ops it.i x.i ∨ Ind ops x it := by
          intro x hx
          obtain ⟨q, hq, hqi, hqo⟩ := hpast.back x hx
          rcases confOf_spec hconf q hq with hb | ⟨hs, hm⟩
          · left; rw [hbf, hd.i, hqi]; exact hb
          · right
            obtain ⟨s1, s2, s3⟩ := slots_spec hs
            rw [← hqo] at s1 s2 s3 hm
            rw [← hd.o] at s1 s2 s3 hm
            have hH : HInd x it := by
              rcases hm with hm | ⟨hc, hmem⟩
              · rcases meet_false hm with hk | hk | ⟨hk1, hk2⟩
                · have := (hpast.kind x hx).no hk
                  exact ⟨fun id hW => absurd hW (this id).1, fun id hW => absurd hW (this id).1, fun id _ => (this id).2⟩
                · have := hd.kind.no hk
                  exact ⟨fun id _ hW => (this id).1 hW, fun id _ => (this id).2, fun id hW => absurd hW (this id).1⟩
                · have a1 := (hpast.kind x hx).rd hk1
                  have a2 := hd.kind.rd hk2
                  exact ⟨fun id hW => absurd hW (a1 id), fun id hW => absurd hW (a1 id), fun id hW => absurd hW (a2 id)⟩
              · obtain ⟨g', q1, q2⟩ := hpast.foot x hx
                exact hd.ind x g' (by rw [hqi]; exact hmem) q1 (q2 hc)
            exact ⟨s1, s2, s3, hH.h1, hH.h2, hH.h3⟩
        have hpast' : Past ops (p :: doneRev) (it :: ex) fs1 (Nat.lor mask (one_ p.i)) := by
          refine ⟨fun q hq => ?_, fun x hx => ?_, fun x hx => ?_, fun x hx => ?_, fun k => ?_⟩
          · rcases List.mem_cons.1 hq with rfl | hq
            · exact ⟨it, by simp, hd.i⟩
            · obtain ⟨x, hx, e⟩ := hpast.each q hq; exact ⟨x, by simp [hx], e⟩
          · rcases List.mem_cons.1 hx with rfl | hx
            · exact ⟨p, by simp, hd.i, hd.o⟩
            · obtain ⟨q, hq, e⟩ := hpast.back x hx; exact ⟨q, by simp [hq], e⟩
          · rcases List.mem_cons.1 hx with rfl | hx
            · exact ⟨g, by rw [hg1, footOf_cons, hd.i]; simp, fun hc => hg2 (by rw [← hd.o]; exact hc)⟩
            · obtain ⟨g', q1, q2⟩ := hpast.foot x hx
              exact ⟨g', by rw [hg1, footOf_cons, if_neg (Ne.symm (hpi x hx))]; exact q1, q2⟩
          · rcases List.mem_cons.1 hx with rfl | hx
            · exact hd.kind
            · exact hpast.kind x hx
          · rw [bit_or, bit_one, hpast.mask k]
            constructor
            · rintro (⟨x, hx, e⟩ | e)
              · exact ⟨x, by simp [hx], e⟩
              · exact ⟨it, by simp, by rw [hd.i, e]⟩
            · rintro ⟨x, hx, e⟩
              rcases List.mem_cons.1 hx with rfl | hx
              · exact .inr (by rw [← e, hd.i])
              · exact .inl ⟨x, hx, e⟩
        obtain ⟨its, e1, e2, e3, e4, e5, e6, e7, e8, e9⟩ := drawA_items hnum hcall hbf rest (p :: doneRev) (it :: ex) _ hP' htopo hpast' hx'
        have hle := hd.le
        refine ⟨it :: its, by simp [hd.i, e1], by omega, ⟨hd.app, by rw [hd.t', hd.h'] at e3; exact e3⟩, ?_, ?_, ?_, ?_, ?_, ?_⟩
        · intro x hx
          rcases List.mem_cons.1 hx with rfl | hx
          · exact hd.good
          · exact e4 x hx
        · exact .cons (fun y hy => (e8 it (by simp) y hy).2) e5
        · refine .cons (fun y hy => ⟨(e8 it (by simp) y hy).1, ?_⟩) e6
          rw [hd.c1]; exact (e7 y hy).1
        · intro x hx
          rcases List.mem_cons.1 hx with rfl | hx
          · rw [hd.c0, hd.c1]; exact ⟨Nat.le_refl _, hle, e2⟩
          · have := e7 x hx; omega
        · intro x hx y hy
          rcases List.mem_cons.1 hy with rfl | hy
          · exact ⟨by rw [hd.i]; exact hpi x hx, hcross x hx⟩
          · exact e8 x (by simp [hx]) y hy
        · intro r1 y r2 hs k hk
          cases r1 with
          | nil =>
            simp only [List.nil_append, List.cons.injEq] at hs
            obtain ⟨rfl, _⟩ := hs
            rw [hbf, hd.i] at hk
            exact .inl ((hpast.mask k).1 (bit_sub htb hk))
          | cons z r1 =>
            simp only [List.cons_append, List.cons.injEq] at hs
            obtain ⟨rfl, hs⟩ := hs
            rcases e9 r1 y r2 hs k hk with ⟨x, hx, e⟩ | ⟨x, hx, e⟩
            · rcases List.mem_cons.1 hx with rfl | hx
              · exact .inr ⟨_, by simp, e⟩
              · exact .inl ⟨x, hx, e⟩
            · exact .inr ⟨x, by simp [hx], e⟩

theorem drawA_wp {X : Ctx} {callF : CallF} (hnum : NoNum X.P) (hcall : CallOk X callF) (hmix : X.P.follows .mixedOrders = true) {nt : Nat} {ops : Array Oper} {pl : List PI} (hpl : planned ops = some pl)
    {E : Env} {w : World} {h : Heap} {t : Tmps} {a : Act} {c : Nat} {t' : Tmps} {h' : Heap} {c' : Nat} (he : EOk X E) (hr : HR X.P E h w) (hfr : FR E nt t a) (hx : drawA X callF nt ops pl t h c [] = .ok t' h' c') (hf : Fresh E c c')
    (Q : Go.Exit → Act → World → Prop) (id : Nat) (hk : ∀ a' w' E', FR E' nt t' a' → Goes X.P E w h c E' w' h' c' → Q .normal a' w') : (Code.region id ops true).wp X.P Q a w := by
  unfold planned at hpl
  cases hp : planOf ops with
  | none => rw [hp] at hpl; cases hpl
  | some l =>
    rw [hp] at hpl
    simp only at hpl
    split at hpl <;> cases hpl
    rename_i h1 h2 h3 h4
    have hP : PlanP ops (befores ops.toList []) l := planGo_ok hp .nil
    have hlr : revP l [] = l.reverse := by rw [revP_eq]; simp
    rw [hlr] at hx h2 h4
    obtain ⟨its, e1, e2, e3, e4, e5, e6, e7, e8, e9⟩ := drawA_items (b := befores ops.toList []) hnum hcall (fun i k => Iff.rfl) l.reverse [] [] 0 (by simpa using hP) h2
      ⟨fun _ h => (by cases h), fun _ h => (by cases h), fun _ h => (by cases h), fun _ h => (by cases h), fun k => by simp [bit_zero]⟩ hx
    have hlen : its.length = ops.size := by
      have := congrArg List.length e1
      simp only [List.length_map, List.length_reverse] at this
      rw [this]
      have := (nbeq_iff _ _).1 h1
      rw [this]; simp
    have hrep : ∀ k (d : Bool), k < ops.size → (Array.replicate ops.size false).getD k d = false := fun k d hk => by
      simp [Array.getD_eq_getD_getElem?, hk]
    have hrep' : ∀ k, (Array.replicate ops.size false).getD k false = false := fun k => by
      by_cases hk : k < ops.size
      · exact hrep k false hk
      · simp [Array.getD_eq_getD_getElem?, hk]
    have hcov : ∀ i, i < ops.size → ∃ it ∈ its, it.i = i := by
      intro i hi
      unfold covers at h4
      simp only [List.all_eq_true, List.mem_range, List.any_eq_true] at h4
      obtain ⟨p, hp1, hp2⟩ := h4 i (by simpa using hi)
      have hpi := (nbeq_iff _ _).1 hp2
      have : p.i ∈ its.map (·.i) := by rw [e1]; exact List.mem_map.2 ⟨p, hp1, rfl⟩
      obtain ⟨it, h5, h6⟩ := List.mem_map.1 this
      exact ⟨it, h5, by rw [h6, hpi]⟩
    refine wp_region_any hmix ?_
    have hdr : HF X.P E (hget h) { w with drawn := w.drawn + 1 } := hr.of_heap rfl
    have hg0 : GF X.P E w (hget h) E { w with drawn := w.drawn + 1 } (hget h) (fun _ => False) := (Goes.drew (w' := { w with drawn := w.drawn + 1 }) (c := c) hr rfl rfl rfl rfl).toF.weaken (fun id h => by omega)
    refine draw_any (bfOk_of h3) (N := fun id => c ≤ id ∧ id < c') (E0 := E) (w0 := w) (H0 := hget h) (Tf := tget t') (Hf := hget h') (fun a' w' E' hff hg => hk a' w' E' hff.toR (hg.toGoes (fun _ h => h) e2)) ops.size _ its E a _ (tget t) (hget h) (fun _ => False)
      hlen ⟨e4, e5, ?_, fun i hi => ⟨fun _ => hcov i hi, fun _ => hrep i true hi⟩, fun r1 it r2 hs k hk' => ?_, by simp⟩ (fun j hj => by rw [hrep' j] at hj; cases hj) he hfr.toF hg0 (fun _ h => h.elim) (fun it hit id h1 h2 => ?_) (fun it hit id h1 h2 => ?_) e3
    · exact e6.imp fun h => ⟨h.1, fun id hh => by omega⟩
    · rcases e9 r1 it r2 hs k hk' with ⟨x, hx, _⟩ | h
      · cases hx
      · exact .inr h
    · have := e7 it hit; omega
    · have := e7 it hit
      exact hf id (by omega) (by omega)
end Go.Proofs.YtnnilbambpfhiaaGreatDoor.Ev
