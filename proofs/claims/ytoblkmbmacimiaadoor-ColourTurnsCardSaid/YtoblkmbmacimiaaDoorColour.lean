/- Plain: sets of which no two members have an edge: in how many ways a set falls into so many of them, and the alternating sum of these, with signs: it is the number of the ways in which the edges may be turned so that nothing comes round. -/
import Derived.Test.YtoblkmbmacimiaaDoorSum
namespace Go.Proofs.YtoblkmbmacimiaaDoor.L

theorem top_bit {w : Nat} (h : w ≠ 0) : w.testBit (Nat.log2 w) = true := by
  have h1 := Nat.log2_self_le h
  have h2 := @Nat.lt_log2_self w
  rw [Nat.testBit_eq_decide_div_mod_eq]
  have : w / 2 ^ w.log2 = 1 := by
    have hp : 0 < 2 ^ w.log2 := Nat.two_pow_pos _
    apply Nat.le_antisymm
    · have := (Nat.div_lt_iff_lt_mul hp).2 (show w < 2 * 2 ^ w.log2 by rw [Nat.pow_succ] at h2; omega)
      omega
    · exact (Nat.le_div_iff_mul_le hp).2 (by omega)
  simp [this]
theorem above_top {w i : Nat} (h : Nat.log2 w < i) : w.testBit i = false :=
  Nat.testBit_lt_two_pow (Nat.lt_of_lt_of_le (@Nat.lt_log2_self w) (Nat.pow_le_pow_right (by decide) h))
theorem top_unique {w t : Nat} (h : w.testBit t = true) (ha : ∀ i, t < i → w.testBit i = false) : Nat.log2 w = t := by
  have hw : w ≠ 0 := by rintro rfl; simp at h
  have h1 := top_bit hw
  rcases Nat.lt_trichotomy (Nat.log2 w) t with hlt | heq | hgt
  · rw [above_top hlt] at h; cases h
  · exact heq
  · rw [ha _ hgt] at h1; cases h1
theorem top_diff {s w : Nat} (hw : w ≠ 0) (h : Sub s w) (ht : s.testBit (Nat.log2 w) = false) : Nat.log2 (w ^^^ s) = Nat.log2 w := by
  apply top_unique
  · rw [diff_bit h, top_bit hw, ht]; rfl
  · intro i hi; rw [diff_bit h, above_top hi]; rfl

section
variable (Q : Nat → Bool)

/-- In how many ways a set falls into j sets that Q lets by: the one with the greatest member first. -/
def A : Nat → Nat → Int
  | 0, w => if w = 0 then 1 else 0
  | j + 1, w => if w = 0 then 0 else sumR (w + 1) fun s => if Sub s w ∧ s.testBit (Nat.log2 w) = true ∧ Q s = true then A j (w ^^^ s) else 0

/-- Over all sets that are let by, without a first one. -/
def T (j w : Nat) : Int := sumR (w + 1) fun s => if Sub s w ∧ s ≠ 0 ∧ Q s = true then A Q j (w ^^^ s) else 0

theorem A_succ {w : Nat} (j : Nat) (h : w ≠ 0) : A Q (j + 1) w = sumR (w + 1) fun s => if Sub s w ∧ s.testBit (Nat.log2 w) = true ∧ Q s = true then A Q j (w ^^^ s) else 0 := by
  rw [A, if_neg h]
theorem A_zero (j : Nat) : A Q (j + 1) 0 = 0 := by rw [A, if_pos rfl]

/-- Sums over the parts of a set may run over any bound that is large enough. -/
theorem sub_sum {w N : Nat} (h : w < N) (p : Nat → Prop) [DecidablePred p] (f : Nat → Int) : sumR N (fun s => if Sub s w ∧ p s then f s else 0) = sumR (w + 1) fun s => if Sub s w ∧ p s then f s else 0 :=
  sumR_le (by omega) fun i h1 _ => if_neg fun hh => by have := hh.1.le; omega

theorem T_eq (j w : Nat) : T Q j w = ((j : Int) + 1) * A Q (j + 1) w := by
  induction j generalizing w with
  | zero =>
    by_cases hw : w = 0
    · subst hw; rw [A_zero]; simp [T, sumR]
    · rw [A_succ Q 0 hw, Int.natCast_zero, Int.zero_add, Int.one_mul]
      refine sumR_congr fun s _ => ?_
      by_cases hs : Sub s w ∧ s.testBit (Nat.log2 w) = true ∧ Q s = true
      · have h0 : s ≠ 0 := by rintro rfl; simp at hs
        rw [if_pos hs, if_pos ⟨hs.1, h0, hs.2.2⟩]
      · rw [if_neg hs]
        by_cases h2 : Sub s w ∧ s ≠ 0 ∧ Q s = true
        · rw [if_pos h2]
          have ht : s.testBit (Nat.log2 w) = false := by
            cases hb : s.testBit (Nat.log2 w)
            · rfl
            · exact absurd ⟨h2.1, hb, h2.2.2⟩ hs
          have hne : w ^^^ s ≠ 0 := fun e => by
            have := diff_bit h2.1 (Nat.log2 w)
            rw [e, ht, top_bit hw] at this; simp at this
          rw [A, if_neg hne]
        · rw [if_neg h2]
  | succ j ih =>
    by_cases hw : w = 0
    · subst hw; rw [A_zero]; simp [T, sumR, Sub]
    · -- the sets with the greatest member, and the others
      have split : T Q (j + 1) w = A Q (j + 2) w + sumR (w + 1) fun s => if Sub s w ∧ s ≠ 0 ∧ s.testBit (Nat.log2 w) = false ∧ Q s = true then A Q (j + 1) (w ^^^ s) else 0 := by
        rw [A_succ Q (j + 1) hw, ← sumR_add]
        refine sumR_congr fun s _ => ?_
        by_cases h1 : Sub s w
        · cases hb : s.testBit (Nat.log2 w)
          · simp [h1]
          · have h0 : s ≠ 0 := by rintro rfl; simp at hb
            simp [h1, h0]
        · simp [h1]
      have inner : (sumR (w + 1) fun s => if Sub s w ∧ s ≠ 0 ∧ s.testBit (Nat.log2 w) = false ∧ Q s = true then A Q (j + 1) (w ^^^ s) else 0)
          = sumR (w + 1) fun r => if Sub r w ∧ r.testBit (Nat.log2 w) = true ∧ Q r = true then T Q j (w ^^^ r) else 0 := by
        have e1 : ∀ s, s < w + 1 → (if Sub s w ∧ s ≠ 0 ∧ s.testBit (Nat.log2 w) = false ∧ Q s = true then A Q (j + 1) (w ^^^ s) else 0)
            = sumR (w + 1) fun r => if (Sub s w ∧ s ≠ 0 ∧ Q s = true) ∧ (Sub r (w ^^^ s) ∧ r.testBit (Nat.log2 w) = true ∧ Q r = true) then A Q j (w ^^^ s ^^^ r) else 0 := fun s _ => by
          by_cases h1 : Sub s w ∧ s ≠ 0 ∧ Q s = true
          · cases hb : s.testBit (Nat.log2 w)
            · have hne : w ^^^ s ≠ 0 := fun e => by
                have := diff_bit h1.1 (Nat.log2 w)
                rw [e, hb, top_bit hw] at this; simp at this
              rw [if_pos ⟨h1.1, h1.2.1, rfl, h1.2.2⟩, A_succ Q j hne, top_diff hw h1.1 hb]
              rw [← sub_sum (N := w + 1) (by have := (diff_sub h1.1).le; omega)]
              exact sumR_congr fun r _ => by
                by_cases h3 : Sub r (w ^^^ s) ∧ r.testBit (Nat.log2 w) = true ∧ Q r = true
                · rw [if_pos h3, if_pos ⟨h1, h3⟩]
                · rw [if_neg h3, if_neg fun hh => h3 hh.2]
            · rw [if_neg (by simp)]
              refine (sumR_zero fun r _ => if_neg fun hh => ?_).symm
              have := (sub_diff h1.1).1 hh.2.1
              have := this.2 _ hh.2.2.1
              rw [hb] at this; cases this
          · rw [if_neg fun hh => h1 ⟨hh.1, hh.2.1, hh.2.2.2⟩]
            exact (sumR_zero fun r _ => if_neg fun hh => h1 hh.1).symm
        rw [sumR_congr e1, sumR_swap]
        refine sumR_congr fun r _ => ?_
        by_cases h2 : Sub r w ∧ r.testBit (Nat.log2 w) = true ∧ Q r = true
        · rw [if_pos h2]
          unfold T
          rw [← sub_sum (N := w + 1) (by have := (diff_sub h2.1).le; omega)]
          refine sumR_congr fun s _ => ?_
          have hx : w ^^^ s ^^^ r = w ^^^ r ^^^ s := by rw [Nat.xor_assoc, Nat.xor_comm s, ← Nat.xor_assoc]
          by_cases h3 : Sub s (w ^^^ r) ∧ s ≠ 0 ∧ Q s = true
          · have := sub_swap.2 ⟨h2.1, h3.1⟩
            rw [if_pos h3, if_pos ⟨⟨this.1, h3.2⟩, this.2, h2.2⟩, hx]
          · rw [if_neg h3, if_neg fun hh => h3 ⟨(sub_swap.1 ⟨hh.1.1, hh.2.1⟩).2, hh.1.2⟩]
        · rw [if_neg h2]
          exact sumR_zero fun s _ => if_neg fun hh => h2 ⟨(sub_swap.1 ⟨hh.1.1, hh.2.1⟩).1, hh.2.2⟩
      have last : (sumR (w + 1) fun r => if Sub r w ∧ r.testBit (Nat.log2 w) = true ∧ Q r = true then T Q j (w ^^^ r) else 0) = ((j : Int) + 1) * A Q (j + 2) w := by
        rw [A_succ Q (j + 1) hw, ← sumR_mul]
        refine sumR_congr fun r _ => ?_
        by_cases h2 : Sub r w ∧ r.testBit (Nat.log2 w) = true ∧ Q r = true
        · rw [if_pos h2, if_pos h2, ih]
        · rw [if_neg h2, if_neg h2]; simp
      rw [split, inner, last, Int.natCast_succ, Int.add_mul ((j : Int) + 1) 1, Int.one_mul, Int.add_comm]

/-- The alternating sum, up to M sets. -/
def fac : Nat → Int
  | 0 => 1
  | n + 1 => ((n : Int) + 1) * fac n
def alt (j : Nat) : Int := if j % 2 = 0 then fac j else - fac j
theorem alt_succ (j : Nat) : alt (j + 1) = - (((j : Int) + 1) * alt j) := by
  unfold alt
  by_cases h : j % 2 = 0
  · rw [if_neg (by omega), if_pos h]; rfl
  · rw [if_pos (by omega), if_neg h, fac, Int.mul_neg, Int.neg_neg]
def F (M w : Nat) : Int := sumR (M + 1) fun j => alt j * A Q j w

theorem F_zero (M : Nat) : F Q M 0 = 1 := by
  unfold F
  rw [sumR_first, sumR_zero fun j _ => by rw [A_zero, Int.mul_zero]]
  rfl
theorem F_step (M : Nat) {w : Nat} (hw : w ≠ 0) : F Q (M + 1) w = - sumR (w + 1) fun s => if Sub s w ∧ s ≠ 0 ∧ Q s = true then F Q M (w ^^^ s) else 0 := by
  unfold F
  rw [sumR_first, show A Q 0 w = 0 by rw [A, if_neg hw], Int.mul_zero, Int.zero_add]
  have e1 : ∀ j, j < M + 1 → alt (j + 1) * A Q (j + 1) w = - sumR (w + 1) fun s => if Sub s w ∧ s ≠ 0 ∧ Q s = true then alt j * A Q j (w ^^^ s) else 0 := fun j _ => by
    have h := T_eq Q j w
    unfold T at h
    rw [alt_succ, Int.neg_mul, Int.mul_comm ((j : Int) + 1), Int.mul_assoc, ← h, ← sumR_mul]
    congr 1
    exact sumR_congr fun s _ => by split <;> simp
  rw [sumR_congr e1, sumR_neg, sumR_swap]
  congr 1
  refine sumR_congr fun s _ => ?_
  rw [sumR_if]

/-- What satisfies the recursion by signs is, but for the sign of the whole, this sum. -/
theorem F_is (K : Nat) (G : Nat → Int) (hG0 : G 0 = 1) (hG : ∀ w, w ≠ 0 → w < 2 ^ K → G w = - sumR (w + 1) fun s => if Sub s w ∧ s ≠ 0 ∧ Q s = true then sgn K s * G (w ^^^ s) else 0)
    (w : Nat) (hw : w < 2 ^ K) : ∀ M, bcK K w ≤ M → F Q M w = sgn K w * G w := by
  induction w using Nat.strongRecOn with
  | _ w ih =>
    intro M hM
    by_cases h0 : w = 0
    · subst h0; rw [F_zero, hG0, sgn_zero]; rfl
    · have hp := bcK_pos K h0 hw
      obtain ⟨M, rfl⟩ : ∃ m, M = m + 1 := ⟨M - 1, by omega⟩
      rw [F_step Q M h0, hG w h0 hw, Int.mul_neg, ← sumR_mul]
      congr 1
      refine sumR_congr fun s hs => ?_
      by_cases h : Sub s w ∧ s ≠ 0 ∧ Q s = true
      · have hlt := diff_lt h.1 h.2.1
        have hbs := bcK_add K h.1
        have hbp := bcK_pos K h.2.1 (by omega)
        rw [if_pos h, if_pos h, ih _ hlt (by omega) M (by omega), sgn_mul K h.1]
        have := sgn_sq K s
        rw [Int.mul_assoc (sgn K s), ← Int.mul_assoc (sgn K (w ^^^ s)), Int.mul_comm (sgn K (w ^^^ s)) (sgn K s), ← Int.mul_assoc (sgn K s), ← Int.mul_assoc (sgn K s), this, Int.one_mul]
      · rw [if_neg h, if_neg h, Int.mul_zero]
end

end Go.Proofs.YtoblkmbmacimiaaDoor.L
