/- Plain: the places of the set bits of a word, from the lowest on. -/
import Derived.Lib.TrailingZeros
namespace Go.Proofs.YtoblkmbmacimiaaDoor.B

/-- The word without its lowest bit. -/
def nxt (u : Nat) : Nat := u &&& (u - 1)
theorem nxt_lt {u : Nat} (h : u ≠ 0) : nxt u < u := by
  have := @Nat.and_le_right u (u - 1)
  unfold nxt
  omega

/-- The places of the set bits, the lowest first. -/
def bitsOf (u : Nat) : List Nat := if _h : u = 0 then [] else Lib.ctz 32 u :: bitsOf (nxt u)
termination_by u
decreasing_by exact nxt_lt _h

theorem bitsOf_zero : bitsOf 0 = [] := by rw [bitsOf]; simp
theorem bitsOf_cons {u : Nat} (h : u ≠ 0) : bitsOf u = Lib.ctz 32 u :: bitsOf (nxt u) := by rw [bitsOf, dif_neg h]

theorem ctz_form {u : Nat} (h : u ≠ 0) (hl : u < 4294967296) : ∃ m, u = 2 ^ Lib.ctz 32 u * (2 * m + 1) ∧ Lib.ctz 32 u < 32 := by
  unfold Lib.ctz
  rw [if_neg h]
  exact Lib.ctzFrom_spec 32 u (by omega) (by simpa using hl)

/-- x && (x - 1), for x = 2^k (2m + 1): 2^k (2m). -/
theorem nxt_form (k m : Nat) : nxt (2 ^ k * (2 * m + 1)) = 2 ^ k * (2 * m) := by
  unfold nxt
  apply Nat.eq_of_testBit_eq
  intro i
  have e : 2 ^ k * (2 * m + 1) - 1 = 2 ^ k * (2 * m) + (2 ^ k - 1) := by
    have : 0 < 2 ^ k := Nat.two_pow_pos k
    rw [Nat.mul_add, Nat.mul_one]
    omega
  have hlt : 2 ^ k - 1 < 2 ^ k := by have : 0 < 2 ^ k := Nat.two_pow_pos k; omega
  rw [Nat.testBit_and, e, Nat.testBit_two_pow_mul_add _ hlt, Nat.testBit_two_pow_mul, Nat.testBit_two_pow_mul]
  by_cases hik : i < k
  · have : ¬ k ≤ i := by omega
    simp [hik, this]
  · have hk : k ≤ i := by omega
    simp only [hk, decide_true, Bool.true_and, hik, if_false]
    by_cases he : i = k
    · subst he; simp
    · obtain ⟨j, rfl⟩ : ∃ j, i = k + (j + 1) := ⟨i - k - 1, by omega⟩
      rw [show k + (j + 1) - k = j + 1 by omega, Nat.testBit_succ, Nat.testBit_succ]
      rw [show (2 * m + 1) / 2 = m by omega, show 2 * m / 2 = m by omega]
      simp

theorem nxt_bit {u : Nat} (h : u ≠ 0) (hl : u < 4294967296) (i : Nat) : (nxt u).testBit i = (u.testBit i && decide (i ≠ Lib.ctz 32 u)) := by
  obtain ⟨m, hm, hk⟩ := ctz_form h hl
  generalize Lib.ctz 32 u = k at *
  rw [hm, nxt_form, Nat.testBit_two_pow_mul, Nat.testBit_two_pow_mul]
  by_cases hik : k ≤ i
  · by_cases he : i = k
    · subst he; simp
    · obtain ⟨j, rfl⟩ : ∃ j, i = k + (j + 1) := ⟨i - k - 1, by omega⟩
      rw [show k + (j + 1) - k = j + 1 by omega, Nat.testBit_succ, Nat.testBit_succ]
      rw [show (2 * m + 1) / 2 = m by omega, show 2 * m / 2 = m by omega]
      simp
  · simp [hik]

theorem ctz_bit {u : Nat} (h : u ≠ 0) (hl : u < 4294967296) : u.testBit (Lib.ctz 32 u) = true := by
  obtain ⟨m, hm, hk⟩ := ctz_form h hl
  generalize Lib.ctz 32 u = k at *
  rw [hm, Nat.testBit_two_pow_mul]
  simp

theorem ctz_least {u : Nat} (h : u ≠ 0) (hl : u < 4294967296) {i : Nat} (hi : u.testBit i = true) : Lib.ctz 32 u ≤ i := by
  obtain ⟨m, hm, hk⟩ := ctz_form h hl
  generalize Lib.ctz 32 u = k at *
  rw [hm, Nat.testBit_two_pow_mul] at hi
  simp at hi
  exact hi.1

theorem nxt_lt' {u : Nat} (hl : u < 4294967296) : nxt u < 4294967296 := Nat.lt_of_le_of_lt (@Nat.and_le_left u (u - 1)) hl

theorem mem_bitsOf (u : Nat) (hl : u < 4294967296) (i : Nat) : i ∈ bitsOf u ↔ u.testBit i = true := by
  induction u using Nat.strongRecOn with
  | _ u ih =>
    by_cases h : u = 0
    · subst h; simp [bitsOf_zero]
    · rw [bitsOf_cons h, List.mem_cons, ih _ (nxt_lt h) (nxt_lt' hl), nxt_bit h hl]
      constructor
      · rintro (rfl | hi)
        · exact ctz_bit h hl
        · simp at hi; exact hi.1
      · intro hi
        by_cases he : i = Lib.ctz 32 u
        · exact .inl he
        · exact .inr (by simp [hi, he])

theorem bitsOf_sorted (u : Nat) (hl : u < 4294967296) : (bitsOf u).Pairwise (· < ·) := by
  induction u using Nat.strongRecOn with
  | _ u ih =>
    by_cases h : u = 0
    · subst h; rw [bitsOf_zero]; exact List.Pairwise.nil
    · rw [bitsOf_cons h]
      refine List.Pairwise.cons ?_ (ih _ (nxt_lt h) (nxt_lt' hl))
      intro i hi
      rw [mem_bitsOf _ (nxt_lt' hl), nxt_bit h hl] at hi
      simp at hi
      have := ctz_least h hl hi.1
      omega

theorem bitsOf_lt32 (u : Nat) (hl : u < 4294967296) {i : Nat} (hi : i ∈ bitsOf u) : i < 32 := by
  rw [mem_bitsOf u hl] at hi
  apply Nat.lt_of_not_le
  intro h
  rw [Nat.testBit_lt_two_pow (Nat.lt_of_lt_of_le (by simpa using hl) (Nat.pow_le_pow_right (by decide) h))] at hi
  simp at hi

end Go.Proofs.YtoblkmbmacimiaaDoor.B
