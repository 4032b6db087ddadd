/-
  The loop of the slices, whole.
-/
import Derived.Test.YtnnilbambpfhiaaGreatDoorEv31
import Derived.Test.YtnnilbambpfhiaaGreatDoorEv32
import Derived.Test.YtnnilbambpfhiaaGreatDoorEv33
import Derived.Test.YtnnilbambpfhiaaGreatDoorEv34
import Derived.Test.YtnnilbambpfhiaaGreatDoorEv35
namespace Go.Proofs.YtnnilbambpfhiaaGreatDoor.Ev
open Go

/-- The unknowns at the loop's head: what is still to be counted down, the slices that were, the steps that were, the steps that will have been. -/
def Head (d : Int) (k : Nat) (ρ : Nat → Int) : Prop := ρ 0 = k ∧ 0 ≤ ρ 1 ∧ 6 * ρ 1 + k ≤ 1010 ∧ 0 ≤ ρ 2 ∧ ρ 2 + 10 * k ≤ 15000 ∧ ρ 3 = ρ 2 + 9 * k + d
theorem inB4 {ρ : Nat → Int} {a b c d : Int × Int} (h0 : a.1 ≤ ρ 0 ∧ ρ 0 ≤ a.2) (h1 : b.1 ≤ ρ 1 ∧ ρ 1 ≤ b.2) (h2 : c.1 ≤ ρ 2 ∧ ρ 2 ≤ c.2) (h3 : d.1 ≤ ρ 3 ∧ ρ 3 ≤ d.2) : InB [a, b, c, d] ρ := by
  intro v x h
  match v with
  | 0 => cases h; exact h0
  | 1 => cases h; exact h1
  | 2 => cases h; exact h2
  | 3 => cases h; exact h3
  | n + 4 => cases h
theorem denL (ρ : Nat → Int) (n : Int) (v : Nat) : (Lin.l n [(v, 1)]).den ρ = n + ρ v := by
  show n + (1 * ρ v + 0) = _
  omega
theorem last_head {d n : Int} {k : Nat} (hk : k ≤ 6) (hd : 0 ≤ d) (hd' : d ≤ 6) (hn : n = 9 * k + d) (ρ : Nat → Int) (h : Head d k ρ) : InB (bE k) ρ ∧ (Lin.l n [(2, 1)]).den ρ = (Lin.l 0 [(3, 1)]).den ρ := by
  obtain ⟨h0, h1, h2, h3, h4, h5⟩ := h
  refine ⟨inB4 ⟨?_, ?_⟩ ⟨?_, ?_⟩ ⟨?_, ?_⟩ ⟨?_, ?_⟩, ?_⟩ <;> first | (simp only [denL]; omega) | (simp only []; omega)
theorem thR0 (d : Int) (ρ : Nat → Int) : denTh (thR d) ρ 0 = d + ρ 0 := denL ρ d 0
theorem thR1 (d : Int) (ρ : Nat → Int) : denTh (thR d) ρ 1 = 1 + ρ 1 := denL ρ 1 1
theorem thR2 (d : Int) (ρ : Nat → Int) : denTh (thR d) ρ 2 = 57 + ρ 2 := denL ρ 57 2
theorem thR3 (d : Int) (ρ : Nat → Int) : denTh (thR d) ρ 3 = 0 + ρ 3 := denL ρ 0 3
theorem round_head {d d' δ : Int} {k k' : Nat} (hk : 7 ≤ k) (hk' : k ≤ 999) (hd : 0 ≤ d) (hd' : d ≤ 6) (h1 : (k' : Int) = k + δ) (h2 : δ = -6 ∨ δ = -7) (h3 : 9 * δ + 57 + d' = d) (ρ : Nat → Int) (h : Head d k ρ) :
    InB bR ρ ∧ Head d' k' (denTh (thR δ) ρ) := by
  obtain ⟨h0, h1', h2', h3', h4, h5⟩ := h
  refine ⟨inB4 ⟨?_, ?_⟩ ⟨?_, ?_⟩ ⟨?_, ?_⟩ ⟨?_, ?_⟩, ?_⟩
  any_goals (simp only []; omega)
  unfold Head
  rw [thR0, thR1, thR2, thR3]
  rcases h2 with rfl | rfl <;> omega

abbrev L18 (A : Tm) (d : Int) (k N : Nat) : Prop := LoopAt Tryz.prog 5 116 body18 A endT 2 (Head d k) (4000 * (k + 1)) N
theorem lastL {A : Tm} {d n : Int} {k N : Nat} (h : lastIs (XR (bE k)) (callR (bE k)) 116 body18 A FE 2 19 (.l n [(2, 1)]) 4000 = true) (hk : k ≤ 6) (hd : 0 ≤ d) (hd' : d ≤ 6) (hn : n = 9 * k + d) (hN : 4 ≤ N) : L18 A d k N :=
  last_ok (P := Tryz.prog) (G := 5) (B := bE k) hnum (callR_ok _) hmix h (last_head hk hd hd' hn) (by omega) hN
theorem roundL {A A1 : Tm} {d d' δ : Int} {k k' N : Nat} (h : roundIs (XR bR) (callR bR) 116 body18 A A1 endT id3 (thR δ) 4000 = true) (hk : 7 ≤ k) (hk' : k ≤ 999) (hd : 0 ≤ d) (hd' : d ≤ 6) (h1 : (k' : Int) = k + δ) (h2 : δ = -6 ∨ δ = -7) (h3 : 9 * δ + 57 + d' = d)
    (ih : L18 A1 d' k' N) : L18 A d k (N + 1) :=
  round_ok (P := Tryz.prog) (G := 5) (B := bR) hnum (callR_ok _) hmix h (round_head hk hk' hd hd' h1 h2 h3) (by rcases h2 with rfl | rfl <;> omega) ih
theorem loop_all : ∀ k : Nat, k ≤ 999 → ∀ N, k + 5 ≤ N → L18 A0 6 k N ∧ (1 ≤ k → L18 A3 3 k N) ∧ (1 ≤ k → L18 A6 0 k N) := by
  intro k
  induction k using Nat.strongRecOn with
  | ind k ih =>
    intro hk N hN
    by_cases h7 : 7 ≤ k
    · obtain ⟨M, rfl⟩ : ∃ M, N = M + 1 := ⟨N - 1, by omega⟩
      have i6 := ih (k - 6) (by omega) (by omega) M (by omega)
      have i7 := ih (k - 7) (by omega) (by omega) M (by omega)
      exact ⟨roundL round_A0 h7 hk (by omega) (by omega) (by omega) (.inl rfl) (by omega) (i6.2.1 (by omega)),
        fun _ => roundL round_A3 h7 hk (by omega) (by omega) (by omega) (.inl rfl) (by omega) (i6.2.2 (by omega)),
        fun _ => roundL round_A6 h7 hk (by omega) (by omega) (by omega) (.inr rfl) (by omega) i7.1⟩
    · have : k = 0 ∨ k = 1 ∨ k = 2 ∨ k = 3 ∨ k = 4 ∨ k = 5 ∨ k = 6 := by omega
      rcases this with rfl | rfl | rfl | rfl | rfl | rfl | rfl
      · exact ⟨lastL last_A0_0 (by omega) (by omega) (by omega) (by omega) (by omega), fun h => by omega, fun h => by omega⟩
      · exact ⟨lastL last_A0_1 (by omega) (by omega) (by omega) (by omega) (by omega), fun _ => lastL last_A3_1 (by omega) (by omega) (by omega) (by omega) (by omega), fun _ => lastL last_A6_1 (by omega) (by omega) (by omega) (by omega) (by omega)⟩
      · exact ⟨lastL last_A0_2 (by omega) (by omega) (by omega) (by omega) (by omega), fun _ => lastL last_A3_2 (by omega) (by omega) (by omega) (by omega) (by omega), fun _ => lastL last_A6_2 (by omega) (by omega) (by omega) (by omega) (by omega)⟩
      · exact ⟨lastL last_A0_3 (by omega) (by omega) (by omega) (by omega) (by omega), fun _ => lastL last_A3_3 (by omega) (by omega) (by omega) (by omega) (by omega), fun _ => lastL last_A6_3 (by omega) (by omega) (by omega) (by omega) (by omega)⟩
      · exact ⟨lastL last_A0_4 (by omega) (by omega) (by omega) (by omega) (by omega), fun _ => lastL last_A3_4 (by omega) (by omega) (by omega) (by omega) (by omega), fun _ => lastL last_A6_4 (by omega) (by omega) (by omega) (by omega) (by omega)⟩
      · exact ⟨lastL last_A0_5 (by omega) (by omega) (by omega) (by omega) (by omega), fun _ => lastL last_A3_5 (by omega) (by omega) (by omega) (by omega) (by omega), fun _ => lastL last_A6_5 (by omega) (by omega) (by omega) (by omega) (by omega)⟩
      · exact ⟨lastL last_A0_6 (by omega) (by omega) (by omega) (by omega) (by omega), fun _ => lastL last_A3_6 (by omega) (by omega) (by omega) (by omega) (by omega), fun _ => lastL last_A6_6 (by omega) (by omega) (by omega) (by omega) (by omega)⟩
theorem loop_first (k : Nat) (hk : k ≤ 999) (N : Nat) (hN : k + 6 ≤ N) : L18 A0i 6 k N := by
  by_cases h7 : 7 ≤ k
  · obtain ⟨M, rfl⟩ : ∃ M, N = M + 1 := ⟨N - 1, by omega⟩
    exact roundL round_A0i h7 hk (by omega) (by omega) (by omega) (.inl rfl) (by omega) ((loop_all (k - 6) (by omega) M (by omega)).2.1 (by omega))
  · have : k = 0 ∨ k = 1 ∨ k = 2 ∨ k = 3 ∨ k = 4 ∨ k = 5 ∨ k = 6 := by omega
    rcases this with rfl | rfl | rfl | rfl | rfl | rfl | rfl
    · exact lastL last_A0i_0 (by omega) (by omega) (by omega) (by omega) (by omega)
    · exact lastL last_A0i_1 (by omega) (by omega) (by omega) (by omega) (by omega)
    · exact lastL last_A0i_2 (by omega) (by omega) (by omega) (by omega) (by omega)
    · exact lastL last_A0i_3 (by omega) (by omega) (by omega) (by omega) (by omega)
    · exact lastL last_A0i_4 (by omega) (by omega) (by omega) (by omega) (by omega)
    · exact lastL last_A0i_5 (by omega) (by omega) (by omega) (by omega) (by omega)
    · exact lastL last_A0i_6 (by omega) (by omega) (by omega) (by omega) (by omega)

/-- the way through the loop, for all counts -/
def bK : Bnds := [(0, 999)]
def thI : Th := [(3, .l 6 [(0, 9)])]
def thJ : Th := [(0, .l 0 [(0, 1)]), (1, .c 0), (2, .c 0), (3, .l 6 [(0, 9)])]
noncomputable def hk18 (B : Bnds) : Tmps → Heap → Nat → R := loopHk (XR B) A0i endT thI thJ 2 4000000
theorem hk18_ok : RunIf (XR bK) 116 (fun _ => True) (hk18 bK) (.loop body18) := by
  refine loopHk_ok fun ρ hρ => ?_
  have h0 := hρ 0 (0, 999) rfl
  simp only at h0
  refine ⟨Head 6 (ρ 0).toNat, (ρ 0).toNat + 6, ?_, (loop_first (ρ 0).toNat (by omega) _ (by omega)).wider (by omega)⟩
  have e0 : denTh thJ ρ 0 = 0 + ρ 0 := denL ρ 0 0
  have e1 : denTh thJ ρ 1 = 0 := rfl
  have e2 : denTh thJ ρ 2 = 0 := rfl
  have e3 : denTh thJ ρ 3 = 6 + (9 * ρ 0 + 0) := rfl
  unfold Head
  rw [e0, e1, e2, e3]
  omega
end Go.Proofs.YtnnilbambpfhiaaGreatDoor.Ev
