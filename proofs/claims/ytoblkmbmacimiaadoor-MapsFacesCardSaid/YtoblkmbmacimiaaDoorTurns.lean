/- Plain: finite sums of integers over the numbers below a bound; words as sets. Plain: sets of which no two members have an edge: in how many ways a set falls into so many of them, and the alternating sum of these, with signs: it is the number of the ways in which the edges may be turned so that nothing comes round. Plain: in how many ways the edges inside a set may be turned so that nothing comes round; the recursion by signs that this number keeps. -/


namespace Go.Proofs.YtoblkmbmacimiaaDoor.L

/-- The sum of f over the numbers below n. -/
def sumR : Nat → (Nat → Int) → Int
  | 0, _ => 0
  | n + 1, f => sumR n f + f n

theorem sumR_congr {n : Nat} {f g : Nat → Int} (h : ∀ i, i < n → f i = g i) : sumR n f = sumR n g := by
  induction n with
  | zero => rfl
  | succ n ih => simp only [sumR]; rw [ih fun i hi => h i (by omega), h n (by omega)]
theorem sumR_zero {n : Nat} {f : Nat → Int} (h : ∀ i, i < n → f i = 0) : sumR n f = 0 := by
  induction n with
  | zero => rfl
  | succ n ih => simp only [sumR]; rw [ih fun i hi => h i (by omega), h n (by omega)]; rfl
theorem sumR_add (n : Nat) (f g : Nat → Int) : sumR n (fun i => f i + g i) = sumR n f + sumR n g := by
  induction n with
  | zero => rfl
  | succ n ih => simp only [sumR, ih]; omega
theorem sumR_neg (n : Nat) (f : Nat → Int) : sumR n (fun i => - f i) = - sumR n f := by
  induction n with
  | zero => rfl
  | succ n ih => simp only [sumR, ih]; omega
theorem sumR_mul (n : Nat) (c : Int) (f : Nat → Int) : sumR n (fun i => c * f i) = c * sumR n f := by
  induction n with
  | zero => simp [sumR]
  | succ n ih => simp only [sumR, ih, Int.mul_add]
theorem sumR_swap (n m : Nat) (f : Nat → Nat → Int) : sumR n (fun i => sumR m fun j => f i j) = sumR m fun j => sumR n fun i => f i j := by
  induction n with
  | zero => simp only [sumR]; exact (sumR_zero fun _ _ => rfl).symm
  | succ n ih => simp only [sumR, ih, sumR_add]
theorem sumR_le {n m : Nat} (h : n ≤ m) {f : Nat → Int} (hf : ∀ i, n ≤ i → i < m → f i = 0) : sumR m f = sumR n f := by
  induction m with
  | zero => obtain rfl : n = 0 := by omega
            rfl
  | succ m ih =>
    by_cases e : n = m + 1
    · subst e; rfl
    · simp only [sumR]; rw [hf m (by omega) (by omega), ih (by omega) fun i h1 h2 => hf i h1 (by omega)]; omega
theorem sumR_if {n : Nat} (p : Prop) [Decidable p] (f : Nat → Int) : sumR n (fun i => if p then f i else 0) = if p then sumR n f else 0 := by
  by_cases h : p
  · simp [h]
  · simp only [h, if_false]; exact sumR_zero fun _ _ => rfl
theorem sumR_shift (n m : Nat) (f : Nat → Int) : sumR (n + m) f = sumR n f + sumR m fun i => f (n + i) := by
  induction m with
  | zero => simp [sumR]
  | succ m ih => rw [← Nat.add_assoc]; simp only [sumR, ih]; omega
theorem sumR_first (n : Nat) (f : Nat → Int) : sumR (n + 1) f = f 0 + sumR n fun i => f (i + 1) := by
  rw [Nat.add_comm, sumR_shift]
  simp only [sumR, Int.zero_add]
  congr 1
  exact sumR_congr fun i _ => by rw [Nat.add_comm]

/-- A sum over all words of K bits, one bit turned. -/
theorem sumR_flip (K v : Nat) (hv : v < K) (f : Nat → Int) : sumR (2 ^ K) (fun s => f (s ^^^ 2 ^ v)) = sumR (2 ^ K) f := by
  induction K generalizing f with
  | zero => omega
  | succ K ih =>
    have e : 2 ^ (K + 1) = 2 ^ K + 2 ^ K := by rw [Nat.pow_succ]; omega
    have low : ∀ i, i < 2 ^ K → i ^^^ 2 ^ K = 2 ^ K + i := fun i hi => by
      apply Nat.eq_of_testBit_eq
      intro j
      rw [Nat.testBit_xor, Nat.testBit_two_pow]
      by_cases hj : j = K
      · subst hj
        rw [Nat.testBit_two_pow_add_eq, Nat.testBit_lt_two_pow hi]; simp
      · rw [show decide (K = j) = false by simp; omega, Bool.xor_false]
        rcases Nat.lt_or_gt_of_ne hj with h | h
        · rw [Nat.testBit_two_pow_add_gt h]
        · rw [Nat.testBit_lt_two_pow (Nat.lt_of_lt_of_le hi (Nat.pow_le_pow_right (by decide) (by omega)))]
          rw [Nat.testBit_lt_two_pow]
          have : 2 ^ (K + 1) ≤ 2 ^ j := Nat.pow_le_pow_right (by decide) h
          omega
    rw [e, sumR_shift, sumR_shift]
    by_cases hvK : v = K
    · subst hvK
      rw [Int.add_comm]
      congr 1
      · exact sumR_congr fun i hi => by
          rw [← low i hi, Nat.xor_assoc, Nat.xor_self, Nat.xor_zero]
      · exact sumR_congr fun i hi => by rw [low i hi]
    · have hv' : v < K := by omega
      have hvlt : 2 ^ v < 2 ^ K := Nat.pow_lt_pow_right (by decide) hv'
      rw [ih hv' f]
      congr 1
      have : ∀ i, i < 2 ^ K → f (2 ^ K + i ^^^ 2 ^ v) = (fun j => f (2 ^ K + j)) (i ^^^ 2 ^ v) := fun i hi => by
        have hx : i ^^^ 2 ^ v < 2 ^ K := Nat.xor_lt_two_pow hi hvlt
        show _ = f (2 ^ K + (i ^^^ 2 ^ v))
        rw [← low i hi, ← low _ hx, Nat.xor_assoc, Nat.xor_assoc, Nat.xor_comm (2 ^ K)]
      rw [sumR_congr this, ih hv' fun j => f (2 ^ K + j)]

/-! ### Words as sets -/
/-- Is a word a part of another one? -/
def Sub (s w : Nat) : Prop := s &&& w = s
instance (s w : Nat) : Decidable (Sub s w) := inferInstanceAs (Decidable (_ = _))
theorem sub_iff {s w : Nat} : Sub s w ↔ ∀ i, s.testBit i = true → w.testBit i = true := by
  constructor
  · intro h i hi
    have : (s &&& w).testBit i = true := by rw [show s &&& w = s from h]; exact hi
    rw [Nat.testBit_and] at this
    simp at this; exact this.2
  · intro h
    apply Nat.eq_of_testBit_eq
    intro i
    rw [Nat.testBit_and]
    cases hs : s.testBit i
    · simp
    · simp [h i hs]
theorem Sub.le {s w : Nat} (h : Sub s w) : s ≤ w := by
  have := @Nat.and_le_right s w
  rw [show s &&& w = s from h] at this; exact this
theorem sub_refl (w : Nat) : Sub w w := Nat.and_self w
theorem sub_zero (w : Nat) : Sub 0 w := Nat.zero_and w
theorem Sub.trans {a b c : Nat} (h : Sub a b) (k : Sub b c) : Sub a c := sub_iff.2 fun i hi => sub_iff.1 k i (sub_iff.1 h i hi)
theorem diff_bit {s w : Nat} (h : Sub s w) (i : Nat) : (w ^^^ s).testBit i = (w.testBit i && !s.testBit i) := by
  rw [Nat.testBit_xor]
  have := sub_iff.1 h i
  cases hs : s.testBit i
  · simp
  · simp [this hs]
theorem diff_sub {s w : Nat} (h : Sub s w) : Sub (w ^^^ s) w := sub_iff.2 fun i hi => by
  rw [diff_bit h] at hi; simp at hi; exact hi.1
theorem diff_ne {s w : Nat} (hs : s ≠ 0) : w ^^^ s ≠ w := fun e => hs (by
  have : w ^^^ (w ^^^ s) = w ^^^ w := by rw [e]
  rw [← Nat.xor_assoc, Nat.xor_self, Nat.zero_xor] at this; exact this)
theorem diff_lt {s w : Nat} (h : Sub s w) (hs : s ≠ 0) : w ^^^ s < w := by
  have h1 := (diff_sub h).le
  have h2 := @diff_ne s w hs
  omega
/-- Two parts that have nothing in common. -/
theorem sub_diff {r s w : Nat} (hs : Sub s w) : Sub r (w ^^^ s) ↔ Sub r w ∧ ∀ i, r.testBit i = true → s.testBit i = false := by
  rw [sub_iff, sub_iff]
  constructor
  · intro h
    refine ⟨fun i hi => ?_, fun i hi => ?_⟩
    · have := h i hi; rw [diff_bit hs] at this; simp at this; exact this.1
    · have := h i hi; rw [diff_bit hs] at this; simp at this; exact this.2
  · rintro ⟨h1, h2⟩ i hi
    rw [diff_bit hs, h1 i hi, h2 i hi]; rfl
theorem sub_swap {r s w : Nat} : (Sub s w ∧ Sub r (w ^^^ s)) ↔ (Sub r w ∧ Sub s (w ^^^ r)) := by
  constructor
  · rintro ⟨h1, h2⟩
    have h3 := (sub_diff h1).1 h2
    refine ⟨h3.1, (sub_diff h3.1).2 ⟨h1, fun i hi => ?_⟩⟩
    cases hr : r.testBit i
    · rfl
    · have := h3.2 i hr; rw [hi] at this; cases this
  · rintro ⟨h1, h2⟩
    have h3 := (sub_diff h1).1 h2
    refine ⟨h3.1, (sub_diff h3.1).2 ⟨h1, fun i hi => ?_⟩⟩
    cases hs : s.testBit i
    · rfl
    · have := h3.2 i hs; rw [hi] at this; cases this

/-- How many bits below K are set. -/
def bcK : Nat → Nat → Nat
  | 0, _ => 0
  | K + 1, w => bcK K w + if w.testBit K then 1 else 0
theorem bcK_add (K : Nat) {s w : Nat} (h : Sub s w) : bcK K w = bcK K s + bcK K (w ^^^ s) := by
  induction K with
  | zero => rfl
  | succ K ih =>
    simp only [bcK, ih, diff_bit h]
    have := sub_iff.1 h K
    cases hs : s.testBit K
    · cases w.testBit K <;> simp <;> omega
    · simp [this hs]; omega
theorem bcK_pos (K : Nat) {s : Nat} (hs : s ≠ 0) (hl : s < 2 ^ K) : 0 < bcK K s := by
  apply Nat.pos_of_ne_zero
  intro h
  apply hs
  apply Nat.eq_of_testBit_eq
  intro i
  rw [Nat.zero_testBit]
  by_cases hi : i < K
  · clear hl hs
    induction K with
    | zero => omega
    | succ K ih =>
      simp only [bcK] at h
      by_cases e : i = K
      · subst e
        cases hb : s.testBit i
        · rfl
        · rw [hb] at h; simp at h
      · exact ih (by omega) (by omega)
  · exact Nat.testBit_lt_two_pow (Nat.lt_of_lt_of_le hl (Nat.pow_le_pow_right (by decide) (by omega)))
theorem bcK_zero (K : Nat) : bcK K 0 = 0 := by
  induction K with
  | zero => rfl
  | succ K ih => simp [bcK, ih]
theorem bcK_flip (K v w : Nat) (hv : v < K) : (bcK K (w ^^^ 2 ^ v) + bcK K w) % 2 = 1 := by
  induction K with
  | zero => omega
  | succ K ih =>
    simp only [bcK, Nat.testBit_xor, Nat.testBit_two_pow]
    by_cases e : v = K
    · subst e
      have same : ∀ K', K' ≤ v → bcK K' (w ^^^ 2 ^ v) = bcK K' w := fun K' => by
        induction K' with
        | zero => intro _; rfl
        | succ K' ih' =>
          intro h
          simp only [bcK, Nat.testBit_xor, Nat.testBit_two_pow, ih' (by omega)]
          rw [show decide (v = K') = false by simp; omega, Bool.xor_false]
      rw [same v (Nat.le_refl _)]
      cases w.testBit v <;> simp <;> omega
    · have := ih (by omega)
      rw [show decide (v = K) = false by simpa using e, Bool.xor_false]
      split <;> omega

/-- The sign of a word: -1 to the number of its bits. -/
def sgn (K w : Nat) : Int := if bcK K w % 2 = 0 then 1 else -1
theorem sgn_flip (K v w : Nat) (hv : v < K) : sgn K (w ^^^ 2 ^ v) = - sgn K w := by
  have := bcK_flip K v w hv
  unfold sgn
  split <;> split <;> omega
theorem sgn_mul (K : Nat) {s w : Nat} (h : Sub s w) : sgn K w = sgn K s * sgn K (w ^^^ s) := by
  have := bcK_add K h
  unfold sgn
  split <;> split <;> split <;> omega
theorem sgn_sq (K w : Nat) : sgn K w * sgn K w = 1 := by unfold sgn; split <;> rfl
theorem sgn_zero (K : Nat) : sgn K 0 = 1 := by unfold sgn; rw [bcK_zero]; rfl

end Go.Proofs.YtoblkmbmacimiaaDoor.L

namespace Go.Proofs.YtoblkmbmacimiaaDoor.L

theorem top_bit {w : Nat} (h : w ≠ 0) : w.testBit (Nat.log2 w) = true := by
  have h1 := Nat.log2_self_le h
  have h2 := @Nat.lt_log2_self w
  rw [Nat.testBit_eq_decide_div_mod_eq]
  have : w / 2 ^ w.log2 = 1 := by
    have hp : 0 < 2 ^ w.log2 := Nat.two_pow_pos _
    apply Nat.le_antisymm
    · have := (Nat.div_lt_iff_lt_mul hp).2 (show w < 2 * 2 ^ w.log2 by rw [Nat.pow_succ] at h2; omega)
      omega
    · exact (Nat.le_div_iff_mul_le hp).2 (by omega)
  simp [this]
theorem above_top {w i : Nat} (h : Nat.log2 w < i) : w.testBit i = false :=
  Nat.testBit_lt_two_pow (Nat.lt_of_lt_of_le (@Nat.lt_log2_self w) (Nat.pow_le_pow_right (by decide) h))
theorem top_unique {w t : Nat} (h : w.testBit t = true) (ha : ∀ i, t < i → w.testBit i = false) : Nat.log2 w = t := by
  have hw : w ≠ 0 := by rintro rfl; simp at h
  have h1 := top_bit hw
  rcases Nat.lt_trichotomy (Nat.log2 w) t with hlt | heq | hgt
  · rw [above_top hlt] at h; cases h
  · exact heq
  · rw [ha _ hgt] at h1; cases h1
theorem top_diff {s w : Nat} (hw : w ≠ 0) (h : Sub s w) (ht : s.testBit (Nat.log2 w) = false) : Nat.log2 (w ^^^ s) = Nat.log2 w := by
  apply top_unique
  · rw [diff_bit h, top_bit hw, ht]; rfl
  · intro i hi; rw [diff_bit h, above_top hi]; rfl

section
variable (Q : Nat → Bool)

/-- In how many ways a set falls into j sets that Q lets by: the one with the greatest member first. -/
def A : Nat → Nat → Int
  | 0, w => if w = 0 then 1 else 0
  | j + 1, w => if w = 0 then 0 else sumR (w + 1) fun s => if Sub s w ∧ s.testBit (Nat.log2 w) = true ∧ Q s = true then A j (w ^^^ s) else 0

/-- Over all sets that are let by, without a first one. -/
def T (j w : Nat) : Int := sumR (w + 1) fun s => if Sub s w ∧ s ≠ 0 ∧ Q s = true then A Q j (w ^^^ s) else 0

theorem A_succ {w : Nat} (j : Nat) (h : w ≠ 0) : A Q (j + 1) w = sumR (w + 1) fun s => if Sub s w ∧ s.testBit (Nat.log2 w) = true ∧ Q s = true then A Q j (w ^^^ s) else 0 := by
  rw [A, if_neg h]
theorem A_zero (j : Nat) : A Q (j + 1) 0 = 0 := by rw [A, if_pos rfl]

/-- Sums over the parts of a set may run over any bound that is large enough. -/
theorem sub_sum {w N : Nat} (h : w < N) (p : Nat → Prop) [DecidablePred p] (f : Nat → Int) : sumR N (fun s => if Sub s w ∧ p s then f s else 0) = sumR (w + 1) fun s => if Sub s w ∧ p s then f s else 0 :=
  sumR_le (by omega) fun i h1 _ => if_neg fun hh => by have := hh.1.le; omega

theorem T_eq (j w : Nat) : T Q j w = ((j : Int) + 1) * A Q (j + 1) w := by
  induction j generalizing w with
  | zero =>
    by_cases hw : w = 0
    · subst hw; rw [A_zero]; simp [T, sumR]
    · rw [A_succ Q 0 hw, Int.natCast_zero, Int.zero_add, Int.one_mul]
      refine sumR_congr fun s _ => ?_
      by_cases hs : Sub s w ∧ s.testBit (Nat.log2 w) = true ∧ Q s = true
      · have h0 : s ≠ 0 := by rintro rfl; simp at hs
        rw [if_pos hs, if_pos ⟨hs.1, h0, hs.2.2⟩]
      · rw [if_neg hs]
        by_cases h2 : Sub s w ∧ s ≠ 0 ∧ Q s = true
        · rw [if_pos h2]
          have ht : s.testBit (Nat.log2 w) = false := by
            cases hb : s.testBit (Nat.log2 w)
            · rfl
            · exact absurd ⟨h2.1, hb, h2.2.2⟩ hs
          have hne : w ^^^ s ≠ 0 := fun e => by
            have := diff_bit h2.1 (Nat.log2 w)
            rw [e, ht, top_bit hw] at this; simp at this
          rw [A, if_neg hne]
        · rw [if_neg h2]
  | succ j ih =>
    by_cases hw : w = 0
    · subst hw; rw [A_zero]; simp [T, sumR, Sub]
    · -- the sets with the greatest member, and the others
      have split : T Q (j + 1) w = A Q (j + 2) w + sumR (w + 1) fun s => if Sub s w ∧ s ≠ 0 ∧ s.testBit (Nat.log2 w) = false ∧ Q s = true then A Q (j + 1) (w ^^^ s) else 0 := by
        rw [A_succ Q (j + 1) hw, ← sumR_add]
        refine sumR_congr fun s _ => ?_
        by_cases h1 : Sub s w
        · cases hb : s.testBit (Nat.log2 w)
          · simp [h1]
          · have h0 : s ≠ 0 := by rintro rfl; simp at hb
            simp [h1, h0]
        · simp [h1]
      have inner : (sumR (w + 1) fun s => if Sub s w ∧ s ≠ 0 ∧ s.testBit (Nat.log2 w) = false ∧ Q s = true then A Q (j + 1) (w ^^^ s) else 0)
          = sumR (w + 1) fun r => if Sub r w ∧ r.testBit (Nat.log2 w) = true ∧ Q r = true then T Q j (w ^^^ r) else 0 := by
        have e1 : ∀ s, s < w + 1 → (if Sub s w ∧ s ≠ 0 ∧ s.testBit (Nat.log2 w) = false ∧ Q s = true then A Q (j + 1) (w ^^^ s) else 0)
            = sumR (w + 1) fun r => if (Sub s w ∧ s ≠ 0 ∧ Q s = true) ∧ (Sub r (w ^^^ s) ∧ r.testBit (Nat.log2 w) = true ∧ Q r = true) then A Q j (w ^^^ s ^^^ r) else 0 := fun s _ => by
          by_cases h1 : Sub s w ∧ s ≠ 0 ∧ Q s = true
          · cases hb : s.testBit (Nat.log2 w)
            · have hne : w ^^^ s ≠ 0 := fun e => by
                have := diff_bit h1.1 (Nat.log2 w)
                rw [e, hb, top_bit hw] at this; simp at this
              rw [if_pos ⟨h1.1, h1.2.1, rfl, h1.2.2⟩, A_succ Q j hne, top_diff hw h1.1 hb]
              rw [← sub_sum (N := w + 1) (by have := (diff_sub h1.1).le; omega)]
              exact sumR_congr fun r _ => by
                by_cases h3 : Sub r (w ^^^ s) ∧ r.testBit (Nat.log2 w) = true ∧ Q r = true
                · rw [if_pos h3, if_pos ⟨h1, h3⟩]
                · rw [if_neg h3, if_neg fun hh => h3 hh.2]
            · rw [if_neg (by simp)]
              refine (sumR_zero fun r _ => if_neg fun hh => ?_).symm
              have := (sub_diff h1.1).1 hh.2.1
              have := this.2 _ hh.2.2.1
              rw [hb] at this; cases this
          · rw [if_neg fun hh => h1 ⟨hh.1, hh.2.1, hh.2.2.2⟩]
            exact (sumR_zero fun r _ => if_neg fun hh => h1 hh.1).symm
        rw [sumR_congr e1, sumR_swap]
        refine sumR_congr fun r _ => ?_
        by_cases h2 : Sub r w ∧ r.testBit (Nat.log2 w) = true ∧ Q r = true
        · rw [if_pos h2]
          unfold T
          rw [← sub_sum (N := w + 1) (by have := (diff_sub h2.1).le; omega)]
          refine sumR_congr fun s _ => ?_
          have hx : w ^^^ s ^^^ r = w ^^^ r ^^^ s := by rw [Nat.xor_assoc, Nat.xor_comm s, ← Nat.xor_assoc]
          by_cases h3 : Sub s (w ^^^ r) ∧ s ≠ 0 ∧ Q s = true
          · have := sub_swap.2 ⟨h2.1, h3.1⟩
            rw [if_pos h3, if_pos ⟨⟨this.1, h3.2⟩, this.2, h2.2⟩, hx]
          · rw [if_neg h3, if_neg fun hh => h3 ⟨(sub_swap.1 ⟨hh.1.1, hh.2.1⟩).2, hh.1.2⟩]
        · rw [if_neg h2]
          exact sumR_zero fun s _ => if_neg fun hh => h2 ⟨(sub_swap.1 ⟨hh.1.1, hh.2.1⟩).1, hh.2.2⟩
      have last : (sumR (w + 1) fun r => if Sub r w ∧ r.testBit (Nat.log2 w) = true ∧ Q r = true then T Q j (w ^^^ r) else 0) = ((j : Int) + 1) * A Q (j + 2) w := by
        rw [A_succ Q (j + 1) hw, ← sumR_mul]
        refine sumR_congr fun r _ => ?_
        by_cases h2 : Sub r w ∧ r.testBit (Nat.log2 w) = true ∧ Q r = true
        · rw [if_pos h2, if_pos h2, ih]
        · rw [if_neg h2, if_neg h2]; simp
      rw [split, inner, last, Int.natCast_succ, Int.add_mul ((j : Int) + 1) 1, Int.one_mul, Int.add_comm]

/-- The alternating sum, up to M sets. -/
def fac : Nat → Int
  | 0 => 1
  | n + 1 => ((n : Int) + 1) * fac n
def alt (j : Nat) : Int := if j % 2 = 0 then fac j else - fac j
theorem alt_succ (j : Nat) : alt (j + 1) = - (((j : Int) + 1) * alt j) := by
  unfold alt
  by_cases h : j % 2 = 0
  · rw [if_neg (by omega), if_pos h]; rfl
  · rw [if_pos (by omega), if_neg h, fac, Int.mul_neg, Int.neg_neg]
def F (M w : Nat) : Int := sumR (M + 1) fun j => alt j * A Q j w

theorem F_zero (M : Nat) : F Q M 0 = 1 := by
  unfold F
  rw [sumR_first, sumR_zero fun j _ => by rw [A_zero, Int.mul_zero]]
  rfl
theorem F_step (M : Nat) {w : Nat} (hw : w ≠ 0) : F Q (M + 1) w = - sumR (w + 1) fun s => if Sub s w ∧ s ≠ 0 ∧ Q s = true then F Q M (w ^^^ s) else 0 := by
  unfold F
  rw [sumR_first, show A Q 0 w = 0 by rw [A, if_neg hw], Int.mul_zero, Int.zero_add]
  have e1 : ∀ j, j < M + 1 → alt (j + 1) * A Q (j + 1) w = - sumR (w + 1) fun s => if Sub s w ∧ s ≠ 0 ∧ Q s = true then alt j * A Q j (w ^^^ s) else 0 := fun j _ => by
    have h := T_eq Q j w
    unfold T at h
    rw [alt_succ, Int.neg_mul, Int.mul_comm ((j : Int) + 1), Int.mul_assoc, ← h, ← sumR_mul]
    congr 1
    exact sumR_congr fun s _ => by split <;> simp
  rw [sumR_congr e1, sumR_neg, sumR_swap]
  congr 1
  refine sumR_congr fun s _ => ?_
  rw [sumR_if]

/-- What satisfies the recursion by signs is, but for the sign of the whole, this sum. -/
theorem F_is (K : Nat) (G : Nat → Int) (hG0 : G 0 = 1) (hG : ∀ w, w ≠ 0 → w < 2 ^ K → G w = - sumR (w + 1) fun s => if Sub s w ∧ s ≠ 0 ∧ Q s = true then sgn K s * G (w ^^^ s) else 0)
    (w : Nat) (hw : w < 2 ^ K) : ∀ M, bcK K w ≤ M → F Q M w = sgn K w * G w := by
  induction w using Nat.strongRecOn with
  | _ w ih =>
    intro M hM
    by_cases h0 : w = 0
    · subst h0; rw [F_zero, hG0, sgn_zero]; rfl
    · have hp := bcK_pos K h0 hw
      obtain ⟨M, rfl⟩ : ∃ m, M = m + 1 := ⟨M - 1, by omega⟩
      rw [F_step Q M h0, hG w h0 hw, Int.mul_neg, ← sumR_mul]
      congr 1
      refine sumR_congr fun s hs => ?_
      by_cases h : Sub s w ∧ s ≠ 0 ∧ Q s = true
      · have hlt := diff_lt h.1 h.2.1
        have hbs := bcK_add K h.1
        have hbp := bcK_pos K h.2.1 (by omega)
        rw [if_pos h, if_pos h, ih _ hlt (by omega) M (by omega), sgn_mul K h.1]
        have := sgn_sq K s
        rw [Int.mul_assoc (sgn K s), ← Int.mul_assoc (sgn K (w ^^^ s)), Int.mul_comm (sgn K (w ^^^ s)) (sgn K s), ← Int.mul_assoc (sgn K s), ← Int.mul_assoc (sgn K s), this, Int.one_mul]
      · rw [if_neg h, if_neg h, Int.mul_zero]
end

end Go.Proofs.YtoblkmbmacimiaaDoor.L

namespace Go.Proofs.YtoblkmbmacimiaaDoor.L
open Classical

/-- No arc comes to v from within t. -/
def Src (D : List (Nat × Nat)) (t v : Nat) : Prop := ∀ d ∈ D, d.2 = v → t.testBit d.1 = false
def Acyc (D : List (Nat × Nat)) (w : Nat) : Prop := ∀ t, Sub t w → t ≠ 0 → ∃ v, t.testBit v = true ∧ Src D t v
def AllSrc (D : List (Nat × Nat)) (w s : Nat) : Prop := ∀ v, s.testBit v = true → Src D w v

noncomputable def turns : List (Nat × Nat) → List (Nat × Nat) → Nat → Int
  | [], D, w => if Acyc D w then 1 else 0
  | e :: es, D, w => if w.testBit e.1 = true ∧ w.testBit e.2 = true then turns es (e :: D) w + turns es ((e.2, e.1) :: D) w else turns es D w

/-- The same, and the members of s are all sources. -/
noncomputable def turnsS : List (Nat × Nat) → List (Nat × Nat) → Nat → Nat → Int
  | [], D, w, s => if AllSrc D w s ∧ Acyc D w then 1 else 0
  | e :: es, D, w, s => if w.testBit e.1 = true ∧ w.testBit e.2 = true then turnsS es (e :: D) w s + turnsS es ((e.2, e.1) :: D) w s else turnsS es D w s

/-- No two members have an edge. -/
def Apart (es : List (Nat × Nat)) (s : Nat) : Prop := ∀ e ∈ es, ¬ (s.testBit e.1 = true ∧ s.testBit e.2 = true)

theorem turns_nonneg (es D w) : 0 ≤ turns es D w := by
  induction es generalizing D with
  | nil => unfold turns; split <;> omega
  | cons e es ih => unfold turns; split; · have := ih (e :: D); have := ih ((e.2, e.1) :: D); omega
                    · exact ih D
theorem turns_le (es D w) : turns es D w ≤ 2 ^ es.length := by
  induction es generalizing D with
  | nil => unfold turns; split <;> simp
  | cons e es ih =>
    have h2 : (2 : Int) ^ (e :: es).length = 2 ^ es.length + 2 ^ es.length := by rw [List.length_cons, Int.pow_succ]; omega
    have h0 := turns_nonneg es D w
    have := ih D
    unfold turns; split
    · have := ih (e :: D); have := ih ((e.2, e.1) :: D); omega
    · omega
theorem turns_zero (es : List (Nat × Nat)) : turns es [] 0 = 1 := by
  have h : ∀ D : List (Nat × Nat), turns es D 0 = 1 := by
    induction es with
    | nil => intro D; unfold turns; rw [if_pos]; intro t ht h0; exact absurd (Nat.le_zero.1 ht.le) h0
    | cons e es ih => intro D; unfold turns; rw [if_neg (by simp)]; exact ih D
  exact h []

theorem acyc_congr {D D' : List (Nat × Nat)} {w : Nat} (h : ∀ d, w.testBit d.1 = true → w.testBit d.2 = true → (d ∈ D ↔ d ∈ D')) : Acyc D w ↔ Acyc D' w := by
  have key : ∀ {D D' : List (Nat × Nat)}, (∀ d, w.testBit d.1 = true → w.testBit d.2 = true → (d ∈ D ↔ d ∈ D')) → Acyc D w → Acyc D' w := by
    intro D D' h hA t ht h0
    obtain ⟨v, hv, hs⟩ := hA t ht h0
    refine ⟨v, hv, fun d hd e => ?_⟩
    cases hb : t.testBit d.1
    · rfl
    · rw [← hs d ((h d (sub_iff.1 ht _ hb) (by rw [e]; exact sub_iff.1 ht _ hv)).2 hd) e, hb]
  exact ⟨key h, key fun d h1 h2 => (h d h1 h2).symm⟩
theorem turns_congr (es : List (Nat × Nat)) {D D' : List (Nat × Nat)} {w : Nat} (h : ∀ d, w.testBit d.1 = true → w.testBit d.2 = true → (d ∈ D ↔ d ∈ D')) : turns es D w = turns es D' w := by
  induction es generalizing D D' with
  | nil =>
    unfold turns
    by_cases hA : Acyc D w
    · rw [if_pos hA, if_pos ((acyc_congr h).1 hA)]
    · rw [if_neg hA, if_neg fun hh => hA ((acyc_congr h).2 hh)]
  | cons e es ih =>
    unfold turns
    rw [ih h, ih (D := e :: D) (D' := e :: D') fun d h1 h2 => by simp only [List.mem_cons, h d h1 h2], ih (D := (e.2, e.1) :: D) (D' := (e.2, e.1) :: D') fun d h1 h2 => by simp only [List.mem_cons, h d h1 h2]]

theorem turnsS_none (es : List (Nat × Nat)) {D : List (Nat × Nat)} {w s : Nat} (h : ∃ d ∈ D, w.testBit d.1 = true ∧ s.testBit d.2 = true) : turnsS es D w s = 0 := by
  induction es generalizing D with
  | nil =>
    obtain ⟨d, hd, h1, h2⟩ := h
    unfold turnsS
    rw [if_neg]
    rintro ⟨hA, _⟩
    have := hA _ h2 d hd rfl
    rw [h1] at this; cases this
  | cons e es ih =>
    obtain ⟨d, hd, h1⟩ := h
    unfold turnsS
    rw [ih ⟨d, List.mem_cons_of_mem _ hd, h1⟩, ih ⟨d, List.mem_cons_of_mem _ hd, h1⟩, ih ⟨d, hd, h1⟩]
    simp

theorem acyc_rest {D : List (Nat × Nat)} {w s : Nat} (hs : Sub s w) (hA : AllSrc D w s) : Acyc D w ↔ Acyc D (w ^^^ s) := by
  constructor
  · exact fun h t ht h0 => h t (ht.trans (diff_sub hs)) h0
  · intro h t ht h0
    by_cases hx : ∃ v, t.testBit v = true ∧ s.testBit v = true
    · obtain ⟨v, h1, h2⟩ := hx
      refine ⟨v, h1, fun d hd e => ?_⟩
      have := hA v h2 d hd e
      cases hb : t.testBit d.1
      · rfl
      · rw [sub_iff.1 ht _ hb] at this; cases this
    · refine h t ((sub_diff hs).2 ⟨ht, fun i hi => ?_⟩) h0
      cases hb : s.testBit i
      · rfl
      · exact absurd ⟨i, hi, hb⟩ hx

theorem turnsS_is (es : List (Nat × Nat)) {D : List (Nat × Nat)} {w s : Nat} (hs : Sub s w) (hD : AllSrc D w s) : turnsS es D w s = if Apart es s then turns es D (w ^^^ s) else 0 := by
  induction es generalizing D with
  | nil =>
    rw [if_pos (by intro e he; cases he)]
    unfold turnsS turns
    by_cases hA : Acyc D w
    · rw [if_pos ⟨hD, hA⟩, if_pos ((acyc_rest hs hD).1 hA)]
    · rw [if_neg fun hh => hA hh.2, if_neg fun hh => hA ((acyc_rest hs hD).2 hh)]
  | cons e es ih =>
    have hap : Apart (e :: es) s ↔ ¬ (s.testBit e.1 = true ∧ s.testBit e.2 = true) ∧ Apart es s := by simp [Apart]
    unfold turnsS
    by_cases hw : w.testBit e.1 = true ∧ w.testBit e.2 = true
    · rw [if_pos hw]
      cases h1 : s.testBit e.1
      · cases h2 : s.testBit e.2
        · have hd1 : AllSrc (e :: D) w s := fun v hv d hd => by
            rcases List.mem_cons.1 hd with rfl | hd
            · rintro rfl; rw [h2] at hv; cases hv
            · exact hD v hv d hd
          have hd2 : AllSrc ((e.2, e.1) :: D) w s := fun v hv d hd => by
            rcases List.mem_cons.1 hd with rfl | hd
            · rintro rfl; rw [h1] at hv; cases hv
            · exact hD v hv d hd
          rw [ih hd1, ih hd2]
          by_cases ha : Apart es s
          · rw [if_pos ha, if_pos ha, if_pos (hap.2 ⟨by simp [h1], ha⟩)]
            rw [turns, if_pos (by rw [diff_bit hs, diff_bit hs, hw.1, hw.2, h1, h2]; simp)]
          · rw [if_neg ha, if_neg ha, if_neg fun hh => ha (hap.1 hh).2]; rfl
        · have hd2 : AllSrc ((e.2, e.1) :: D) w s := fun v hv d hd => by
            rcases List.mem_cons.1 hd with rfl | hd
            · rintro rfl; rw [h1] at hv; cases hv
            · exact hD v hv d hd
          rw [turnsS_none es ⟨e, List.mem_cons_self, hw.1, h2⟩, ih hd2]
          by_cases ha : Apart es s
          · rw [if_pos ha, if_pos (hap.2 ⟨by simp [h1], ha⟩), Int.zero_add]
            rw [turns, if_neg (by rw [diff_bit hs, diff_bit hs, h2]; simp)]
            refine turns_congr es fun d k1 k2 => ?_
            rw [List.mem_cons]
            refine ⟨fun h => h.resolve_left ?_, .inr⟩
            rintro rfl
            rw [diff_bit hs, h2] at k1; simp at k1
          · rw [if_neg ha, if_neg fun hh => ha (hap.1 hh).2]; rfl
      · cases h2 : s.testBit e.2
        · have hd1 : AllSrc (e :: D) w s := fun v hv d hd => by
            rcases List.mem_cons.1 hd with rfl | hd
            · rintro rfl; rw [h2] at hv; cases hv
            · exact hD v hv d hd
          rw [turnsS_none es (D := (e.2, e.1) :: D) ⟨_, List.mem_cons_self, hw.2, h1⟩, ih hd1]
          by_cases ha : Apart es s
          · rw [if_pos ha, if_pos (hap.2 ⟨by simp [h2], ha⟩), Int.add_zero]
            rw [turns, if_neg (by rw [diff_bit hs, diff_bit hs, h1]; simp)]
            refine turns_congr es fun d k1 k2 => ?_
            rw [List.mem_cons]
            refine ⟨fun h => h.resolve_left ?_, .inr⟩
            rintro rfl
            rw [diff_bit hs, h1] at k1; simp at k1
          · rw [if_neg ha, if_neg fun hh => ha (hap.1 hh).2]; rfl
        · rw [turnsS_none es ⟨e, List.mem_cons_self, hw.1, h2⟩, turnsS_none es (D := (e.2, e.1) :: D) ⟨_, List.mem_cons_self, hw.2, h1⟩, if_neg fun hh => (hap.1 hh).1 ⟨h1, h2⟩]; rfl
    · rw [if_neg hw, ih hD]
      by_cases ha : Apart es s
      · rw [if_pos ha, if_pos (hap.2 ⟨fun hh => hw ⟨sub_iff.1 hs _ hh.1, sub_iff.1 hs _ hh.2⟩, ha⟩)]
        rw [turns, if_neg fun hh => hw ⟨sub_iff.1 (diff_sub hs) _ hh.1, sub_iff.1 (diff_sub hs) _ hh.2⟩]
      · rw [if_neg ha, if_neg fun hh => ha (hap.1 hh).2]

theorem flip_sub {v w s : Nat} (hv : w.testBit v = true) : Sub (s ^^^ 2 ^ v) w ↔ Sub s w := by
  have key : ∀ {s : Nat}, Sub s w → Sub (s ^^^ 2 ^ v) w := fun {s} h => sub_iff.2 fun i hi => by
    rw [Nat.testBit_xor, Nat.testBit_two_pow] at hi
    by_cases e : v = i
    · rw [← e]; exact hv
    · rw [show decide (v = i) = false by simpa using e, Bool.xor_false] at hi
      exact sub_iff.1 h i hi
  refine ⟨fun h => ?_, key⟩
  have := key h
  rwa [Nat.xor_assoc, Nat.xor_self, Nat.xor_zero] at this

theorem turnsS_sum (K : Nat) (es : List (Nat × Nat)) {D : List (Nat × Nat)} {w : Nat} (h0 : w ≠ 0) (hw : w < 2 ^ K) :
    sumR (2 ^ K) (fun s => if Sub s w then sgn K s * turnsS es D w s else 0) = 0 := by
  induction es generalizing D with
  | nil =>
    by_cases hA : Acyc D w
    · obtain ⟨v, hv, hs⟩ := hA w (sub_refl w) h0
      have hvK : v < K := by
        rcases Nat.lt_or_ge v K with h | h
        · exact h
        · rw [Nat.testBit_lt_two_pow (Nat.lt_of_lt_of_le hw (Nat.pow_le_pow_right (by decide) h))] at hv; cases hv
      have all : ∀ s, AllSrc D w (s ^^^ 2 ^ v) ↔ AllSrc D w s := fun s => by
        have key : ∀ {s : Nat}, AllSrc D w s → AllSrc D w (s ^^^ 2 ^ v) := fun {s} h i hi => by
          rw [Nat.testBit_xor, Nat.testBit_two_pow] at hi
          by_cases e : v = i
          · rw [← e]; exact hs
          · rw [show decide (v = i) = false by simpa using e, Bool.xor_false] at hi
            exact h i hi
        refine ⟨fun h => ?_, key⟩
        have := key h
        rwa [Nat.xor_assoc, Nat.xor_self, Nat.xor_zero] at this
      have h1 := sumR_flip K v hvK fun s => if Sub s w then sgn K s * turnsS [] D w s else 0
      have h2 : ∀ s, s < 2 ^ K → (if Sub (s ^^^ 2 ^ v) w then sgn K (s ^^^ 2 ^ v) * turnsS [] D w (s ^^^ 2 ^ v) else 0) = - (if Sub s w then sgn K s * turnsS [] D w s else 0) := fun s _ => by
        have ht : turnsS [] D w (s ^^^ 2 ^ v) = turnsS [] D w s := by
          unfold turnsS
          by_cases hh : AllSrc D w s
          · rw [if_pos ⟨(all s).2 hh, hA⟩, if_pos ⟨hh, hA⟩]
          · rw [if_neg fun k => hh ((all s).1 k.1), if_neg fun k => hh k.1]
        by_cases hb : Sub s w
        · rw [if_pos hb, if_pos ((flip_sub hv).2 hb), ht, sgn_flip K v s hvK, Int.neg_mul]
        · rw [if_neg hb, if_neg fun k => hb ((flip_sub hv).1 k)]; rfl
      rw [sumR_congr h2, sumR_neg] at h1
      omega
    · refine sumR_zero fun s _ => ?_
      unfold turnsS
      split
      · rw [if_neg fun hh => hA hh.2, Int.mul_zero]
      · rfl
  | cons e es ih =>
    by_cases hb : w.testBit e.1 = true ∧ w.testBit e.2 = true
    · have : ∀ s, s < 2 ^ K → (if Sub s w then sgn K s * turnsS (e :: es) D w s else 0) = (if Sub s w then sgn K s * turnsS es (e :: D) w s else 0) + (if Sub s w then sgn K s * turnsS es ((e.2, e.1) :: D) w s else 0) := fun s _ => by
        rw [turnsS, if_pos hb]
        split
        · rw [Int.mul_add]
        · rfl
      rw [sumR_congr this, sumR_add, ih, ih]; rfl
    · have : ∀ s, s < 2 ^ K → (if Sub s w then sgn K s * turnsS (e :: es) D w s else 0) = (if Sub s w then sgn K s * turnsS es D w s else 0) := fun s _ => by
        rw [turnsS, if_neg hb]
      rw [sumR_congr this, ih]

/-- The recursion by signs. -/
theorem turns_step (K : Nat) (es : List (Nat × Nat)) (Q : Nat → Bool) (hQ : ∀ s, Q s = true ↔ Apart es s) (w : Nat) (h0 : w ≠ 0) (hw : w < 2 ^ K) :
    turns es [] w = - sumR (w + 1) fun s => if Sub s w ∧ s ≠ 0 ∧ Q s = true then sgn K s * turns es [] (w ^^^ s) else 0 := by
  have h1 := turnsS_sum K es (D := []) h0 hw
  have hd : ∀ s, AllSrc [] w s := fun s v _ d hd => by cases hd
  have h2 : ∀ s, s < 2 ^ K → (if Sub s w then sgn K s * turnsS es [] w s else 0) = if Sub s w ∧ Q s = true then sgn K s * turns es [] (w ^^^ s) else 0 := fun s _ => by
    by_cases hs : Sub s w
    · rw [if_pos hs, turnsS_is es hs (hd s)]
      by_cases ha : Apart es s
      · rw [if_pos ha, if_pos ⟨hs, (hQ s).2 ha⟩]
      · rw [if_neg ha, if_neg fun hh => ha ((hQ s).1 hh.2), Int.mul_zero]
    · rw [if_neg hs, if_neg (fun (hh : Sub s w ∧ Q s = true) => hs hh.1)]
  rw [sumR_congr h2, sub_sum hw, sumR_first] at h1
  rw [if_pos ⟨sub_zero w, (hQ 0).2 fun e _ => by simp⟩, sgn_zero, Nat.xor_zero, Int.one_mul] at h1
  rw [sumR_first, if_neg (by simp), Int.zero_add]
  have h3 : ∀ i, i < w → (if Sub (i + 1) w ∧ Q (i + 1) = true then sgn K (i + 1) * turns es [] (w ^^^ (i + 1)) else 0) = (if Sub (i + 1) w ∧ i + 1 ≠ 0 ∧ Q (i + 1) = true then sgn K (i + 1) * turns es [] (w ^^^ (i + 1)) else 0) := fun i _ => by
    by_cases h : Sub (i + 1) w ∧ Q (i + 1) = true
    · rw [if_pos h, if_pos ⟨h.1, by omega, h.2⟩]
    · rw [if_neg h, if_neg fun hh => h ⟨hh.1, hh.2.2⟩]
  rw [sumR_congr h3] at h1
  omega

end Go.Proofs.YtoblkmbmacimiaaDoor.L
