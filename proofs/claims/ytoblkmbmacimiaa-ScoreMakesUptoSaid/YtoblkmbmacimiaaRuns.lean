/- Plain: from every list a run of Havel and Hakimi exists. -/
import Derived.Test.YtoblkmbmacimiaaRun
namespace Go.Proofs.Ytoblkmbmacimiaa.L
open Go Go.RowKit

theorem firstMax_ex {n : Nat} (need : Nat → Int) (h : 0 < n) : ∃ v, FirstMax n need v := by
  induction n with
  | zero => omega
  | succ n ih =>
    by_cases hn : n = 0
    · subst hn
      exact ⟨0, by omega, fun i hi => by obtain rfl : i = 0 := by omega
                                         exact Int.le_refl _, fun i hi => by omega⟩
    · obtain ⟨v, h1, h2, h3⟩ := ih (by omega)
      by_cases hgt : need v < need n
      · refine ⟨n, by omega, fun i hi => ?_, fun i hi => ?_⟩
        · rcases Nat.lt_succ_iff_lt_or_eq.1 hi with h | h
          · have := h2 i h; omega
          · rw [h]; exact Int.le_refl _
        · have := h2 i hi; omega
      · refine ⟨v, by omega, fun i hi => ?_, h3⟩
        rcases Nat.lt_succ_iff_lt_or_eq.1 hi with h | h
        · exact h2 i h
        · rw [h]; omega

theorem firstRest_ex {n : Nat} (need : Nat → Int) (v : Nat) (gs : List Nat) : (∀ i, i < n → i = v ∨ i ∈ gs) ∨ ∃ m, FirstRest n need v gs m := by
  induction n with
  | zero => exact .inl fun i hi => by omega
  | succ n ih =>
    by_cases hn : n = v ∨ n ∈ gs
    · rcases ih with h | ⟨m, h1, h2, h3, h4, h5⟩
      · refine .inl fun i hi => ?_
        rcases Nat.lt_succ_iff_lt_or_eq.1 hi with h' | h'
        · exact h i h'
        · rw [h']; exact hn
      · refine .inr ⟨m, by omega, h2, h3, fun i hi a b => ?_, h5⟩
        rcases Nat.lt_succ_iff_lt_or_eq.1 hi with h' | h'
        · exact h4 i h' a b
        · rw [h'] at a b; exact absurd hn (by simp [a, b])
    · have hv : n ≠ v := fun e => hn (.inl e)
      have hg : n ∉ gs := fun e => hn (.inr e)
      rcases ih with h | ⟨m, h1, h2, h3, h4, h5⟩
      · refine .inr ⟨n, by omega, hv, hg, fun i hi a b => ?_, fun i hi a b => ?_⟩
        · rcases Nat.lt_succ_iff_lt_or_eq.1 hi with h' | h'
          · exact absurd (h i h') (by simp [a, b])
          · rw [h']; exact Int.le_refl _
        · exact absurd (h i hi) (by simp [a, b])
      · by_cases hgt : need m < need n
        · refine .inr ⟨n, by omega, hv, hg, fun i hi a b => ?_, fun i hi a b => ?_⟩
          · rcases Nat.lt_succ_iff_lt_or_eq.1 hi with h' | h'
            · have := h4 i h' a b; omega
            · rw [h']; exact Int.le_refl _
          · have := h4 i hi a b; omega
        · refine .inr ⟨m, by omega, h2, h3, fun i hi a b => ?_, h5⟩
          rcases Nat.lt_succ_iff_lt_or_eq.1 hi with h' | h'
          · exact h4 i h' a b
          · rw [h']; omega

theorem ch_ex {n : Nat} (need : Nat → Int) (v : Nat) (t : Nat) : (∃ gs, Ch n need v gs ∧ gs.length = t) ∨ ∃ gs, Ch n need v gs ∧ gs.length < t ∧ ∀ i, i < n → i ≠ v → i ∉ gs → need i ≤ 0 := by
  induction t with
  | zero => exact .inl ⟨[], .nil, rfl⟩
  | succ t ih =>
    rcases ih with ⟨gs, h1, h2⟩ | ⟨gs, h1, h2, h3⟩
    · rcases firstRest_ex (n := n) need v gs with h | ⟨m, hm⟩
      · exact .inr ⟨gs, h1, by omega, fun i hi a b => absurd (h i hi) (by simp [a, b])⟩
      · by_cases hp : 0 < need m
        · exact .inl ⟨gs ++ [m], .snoc h1 hm hp, by simp [h2]⟩
        · exact .inr ⟨gs, h1, by omega, fun i hi a b => by have := hm.2.2.2.1 i hi a b; omega⟩
    · exact .inr ⟨gs, h1, by omega, h3⟩

theorem run_ex {n : Nat} : ∀ (m : Nat) (need : Nat → Int), (∀ i, i < n → 0 ≤ need i ∧ need i ≤ 1100000) → (sumR n need).toNat ≤ m → ∀ es, ∃ r, Run n need es r := by
  intro m
  induction m using Nat.strongRecOn with
  | _ m ih =>
    intro need hb hm es
    by_cases h0 : n = 0
    · exact ⟨some es, .done fun i hi => by omega⟩
    · obtain ⟨v, hv⟩ := firstMax_ex need (by omega : 0 < n)
      have hbv := hb v hv.1
      by_cases hz : need v = 0
      · exact ⟨some es, .done fun i hi => by have := hb i hi; have := hv.2.1 i hi; omega⟩
      · rcases ch_ex (n := n) need v (need v).toNat with ⟨gs, h1, h2⟩ | ⟨gs, h1, h2, h3⟩
        · have ht : (gs.length : Int) = need v := by omega
          obtain ⟨a1, a2⟩ := after_facts hb hv.1 h1 ht
          have hs0 : 0 ≤ sumR n (after need v gs) := sumR_nonneg fun i hi => (a1 i hi).1
          obtain ⟨r, hr⟩ := ih (sumR n (after need v gs)).toNat (by omega) (after need v gs) a1 (Nat.le_refl _) (es ++ edges v gs)
          exact ⟨r, .step hv (by omega) h1 ht hr⟩
        · exact ⟨none, .stuck hv h1 (by omega) h3⟩

end Go.Proofs.Ytoblkmbmacimiaa.L
