/- Plain: finite sums of integers over the numbers below a bound; words as sets. -/
namespace Go.Proofs.YtoblkmbmacimiaaDoor.L

/-- The sum of f over the numbers below n. -/
def sumR : Nat → (Nat → Int) → Int
  | 0, _ => 0
  | n + 1, f => sumR n f + f n

theorem sumR_congr {n : Nat} {f g : Nat → Int} (h : ∀ i, i < n → f i = g i) : sumR n f = sumR n g := by
  induction n with
  | zero => rfl
  | succ n ih => simp only [sumR]; rw [ih fun i hi => h i (by omega), h n (by omega)]
theorem sumR_zero {n : Nat} {f : Nat → Int} (h : ∀ i, i < n → f i = 0) : sumR n f = 0 := by
  induction n with
  | zero => rfl
  | succ n ih => simp only [sumR]; rw [ih fun i hi => h i (by omega), h n (by omega)]; rfl
theorem sumR_add (n : Nat) (f g : Nat → Int) : sumR n (fun i => f i + g i) = sumR n f + sumR n g := by
  induction n with
  | zero => rfl
  | succ n ih => simp only [sumR, ih]; omega
theorem sumR_neg (n : Nat) (f : Nat → Int) : sumR n (fun i => - f i) = - sumR n f := by
  induction n with
  | zero => rfl
  | succ n ih => simp only [sumR, ih]; omega
theorem sumR_mul (n : Nat) (c : Int) (f : Nat → Int) : sumR n (fun i => c * f i) = c * sumR n f := by
  induction n with
  | zero => simp [sumR]
  | succ n ih => simp only [sumR, ih, Int.mul_add]
theorem sumR_swap (n m : Nat) (f : Nat → Nat → Int) : sumR n (fun i => sumR m fun j => f i j) = sumR m fun j => sumR n fun i => f i j := by
  induction n with
  | zero => simp only [sumR]; exact (sumR_zero fun _ _ => rfl).symm
  | succ n ih => simp only [sumR, ih, sumR_add]
theorem sumR_le {n m : Nat} (h : n ≤ m) {f : Nat → Int} (hf : ∀ i, n ≤ i → i < m → f i = 0) : sumR m f = sumR n f := by
  induction m with
  | zero => obtain rfl : n = 0 := by omega
            rfl
  | succ m ih =>
    by_cases e : n = m + 1
    · subst e; rfl
    · simp only [sumR]; rw [hf m (by omega) (by omega), ih (by omega) fun i h1 h2 => hf i h1 (by omega)]; omega
theorem sumR_if {n : Nat} (p : Prop) [Decidable p] (f : Nat → Int) : sumR n (fun i => if p then f i else 0) = if p then sumR n f else 0 := by
  by_cases h : p
  · simp [h]
  · simp only [h, if_false]; exact sumR_zero fun _ _ => rfl
theorem sumR_shift (n m : Nat) (f : Nat → Int) : sumR (n + m) f = sumR n f + sumR m fun i => f (n + i) := by
  induction m with
  | zero => simp [sumR]
  | succ m ih => rw [← Nat.add_assoc]; simp only [sumR, ih]; omega
theorem sumR_first (n : Nat) (f : Nat → Int) : sumR (n + 1) f = f 0 + sumR n fun i => f (i + 1) := by
  rw [Nat.add_comm, sumR_shift]
  simp only [sumR, Int.zero_add]
  congr 1
  exact sumR_congr fun i _ => by rw [Nat.add_comm]

/-- A sum over all words of K bits, one bit turned. -/
theorem sumR_flip (K v : Nat) (hv : v < K) (f : Nat → Int) : sumR (2 ^ K) (fun s => f (s ^^^ 2 ^ v)) = sumR (2 ^ K) f := by
  induction K generalizing f with
  | zero => omega
  | succ K ih =>
    have e : 2 ^ (K + 1) = 2 ^ K + 2 ^ K := by rw [Nat.pow_succ]; omega
    have low : ∀ i, i < 2 ^ K → i ^^^ 2 ^ K = 2 ^ K + i := fun i hi => by
      apply Nat.eq_of_testBit_eq
      intro j
      rw [Nat.testBit_xor, Nat.testBit_two_pow]
      by_cases hj : j = K
      · subst hj
        rw [Nat.testBit_two_pow_add_eq, Nat.testBit_lt_two_pow hi]; simp
      · rw [show decide (K = j) = false by simp; omega, Bool.xor_false]
        rcases Nat.lt_or_gt_of_ne hj with h | h
        · rw [Nat.testBit_two_pow_add_gt h]
        · rw [Nat.testBit_lt_two_pow (Nat.lt_of_lt_of_le hi (Nat.pow_le_pow_right (by decide) (by omega)))]
          rw [Nat.testBit_lt_two_pow]
          have : 2 ^ (K + 1) ≤ 2 ^ j := Nat.pow_le_pow_right (by decide) h
          omega
    rw [e, sumR_shift, sumR_shift]
    by_cases hvK : v = K
    · subst hvK
      rw [Int.add_comm]
      congr 1
      · exact sumR_congr fun i hi => by
          rw [← low i hi, Nat.xor_assoc, Nat.xor_self, Nat.xor_zero]
      · exact sumR_congr fun i hi => by rw [low i hi]
    · have hv' : v < K := by omega
      have hvlt : 2 ^ v < 2 ^ K := Nat.pow_lt_pow_right (by decide) hv'
      rw [ih hv' f]
      congr 1
      have : ∀ i, i < 2 ^ K → f (2 ^ K + i ^^^ 2 ^ v) = (fun j => f (2 ^ K + j)) (i ^^^ 2 ^ v) := fun i hi => by
        have hx : i ^^^ 2 ^ v < 2 ^ K := Nat.xor_lt_two_pow hi hvlt
        show _ = f (2 ^ K + (i ^^^ 2 ^ v))
        rw [← low i hi, ← low _ hx, Nat.xor_assoc, Nat.xor_assoc, Nat.xor_comm (2 ^ K)]
      rw [sumR_congr this, ih hv' fun j => f (2 ^ K + j)]

/-! ### Words as sets -/
/-- Is a word a part of another one? -/
def Sub (s w : Nat) : Prop := s &&& w = s
instance (s w : Nat) : Decidable (Sub s w) := inferInstanceAs (Decidable (_ = _))
theorem sub_iff {s w : Nat} : Sub s w ↔ ∀ i, s.testBit i = true → w.testBit i = true := by
  constructor
  · intro h i hi
    have : (s &&& w).testBit i = true := by rw [show s &&& w = s from h]; exact hi
    rw [Nat.testBit_and] at this
    simp at this; exact this.2
  · intro h
    apply Nat.eq_of_testBit_eq
    intro i
    rw [Nat.testBit_and]
    cases hs : s.testBit i
    · simp
    · simp [h i hs]
theorem Sub.le {s w : Nat} (h : Sub s w) : s ≤ w := by
  have := @Nat.and_le_right s w
  rw [show s &&& w = s from h] at this; exact this
theorem sub_refl (w : Nat) : Sub w w := Nat.and_self w
theorem sub_zero (w : Nat) : Sub 0 w := Nat.zero_and w
theorem Sub.trans {a b c : Nat} (h : Sub a b) (k : Sub b c) : Sub a c := sub_iff.2 fun i hi => sub_iff.1 k i (sub_iff.1 h i hi)
theorem diff_bit {s w : Nat} (h : Sub s w) (i : Nat) : (w ^^^ s).testBit i = (w.testBit i && !s.testBit i) := by
  rw [Nat.testBit_xor]
  have := sub_iff.1 h i
  cases hs : s.testBit i
  · simp
  · simp [this hs]
theorem diff_sub {s w : Nat} (h : Sub s w) : Sub (w ^^^ s) w := sub_iff.2 fun i hi => by
  rw [diff_bit h] at hi; simp at hi; exact hi.1
theorem diff_ne {s w : Nat} (hs : s ≠ 0) : w ^^^ s ≠ w := fun e => hs (by
  have : w ^^^ (w ^^^ s) = w ^^^ w := by rw [e]
  rw [← Nat.xor_assoc, Nat.xor_self, Nat.zero_xor] at this; exact this)
theorem diff_lt {s w : Nat} (h : Sub s w) (hs : s ≠ 0) : w ^^^ s < w := by
  have h1 := (diff_sub h).le
  have h2 := @diff_ne s w hs
  omega
/-- Two parts that have nothing in common. -/
theorem sub_diff {r s w : Nat} (hs : Sub s w) : Sub r (w ^^^ s) ↔ Sub r w ∧ ∀ i, r.testBit i = true → s.testBit i = false := by
  rw [sub_iff, sub_iff]
  constructor
  · intro h
    refine ⟨fun i hi => ?_, fun i hi => ?_⟩
    · have := h i hi; rw [diff_bit hs] at this; simp at this; exact this.1
    · have := h i hi; rw [diff_bit hs] at this; simp at this; exact this.2
  · rintro ⟨h1, h2⟩ i hi
    rw [diff_bit hs, h1 i hi, h2 i hi]; rfl
theorem sub_swap {r s w : Nat} : (Sub s w ∧ Sub r (w ^^^ s)) ↔ (Sub r w ∧ Sub s (w ^^^ r)) := by
  constructor
  · rintro ⟨h1, h2⟩
    have h3 := (sub_diff h1).1 h2
    refine ⟨h3.1, (sub_diff h3.1).2 ⟨h1, fun i hi => ?_⟩⟩
    cases hr : r.testBit i
    · rfl
    · have := h3.2 i hr; rw [hi] at this; cases this
  · rintro ⟨h1, h2⟩
    have h3 := (sub_diff h1).1 h2
    refine ⟨h3.1, (sub_diff h3.1).2 ⟨h1, fun i hi => ?_⟩⟩
    cases hs : s.testBit i
    · rfl
    · have := h3.2 i hs; rw [hi] at this; cases this

/-- How many bits below K are set. -/
def bcK : Nat → Nat → Nat
  | 0, _ => 0
  | K + 1, w => bcK K w + if w.testBit K then 1 else 0
theorem bcK_add (K : Nat) {s w : Nat} (h : Sub s w) : bcK K w = bcK K s + bcK K (w ^^^ s) := by
  induction K with
  | zero => rfl
  | succ K ih =>
    simp only [bcK, ih, diff_bit h]
    have := sub_iff.1 h K
    cases hs : s.testBit K
    · cases w.testBit K <;> simp <;> omega
    · simp [this hs]; omega
theorem bcK_pos (K : Nat) {s : Nat} (hs : s ≠ 0) (hl : s < 2 ^ K) : 0 < bcK K s := by
  apply Nat.pos_of_ne_zero
  intro h
  apply hs
  apply Nat.eq_of_testBit_eq
  intro i
  rw [Nat.zero_testBit]
  by_cases hi : i < K
  · clear hl hs
    induction K with
    | zero => omega
    | succ K ih =>
      simp only [bcK] at h
      by_cases e : i = K
      · subst e
        cases hb : s.testBit i
        · rfl
        · rw [hb] at h; simp at h
      · exact ih (by omega) (by omega)
  · exact Nat.testBit_lt_two_pow (Nat.lt_of_lt_of_le hl (Nat.pow_le_pow_right (by decide) (by omega)))
theorem bcK_zero (K : Nat) : bcK K 0 = 0 := by
  induction K with
  | zero => rfl
  | succ K ih => simp [bcK, ih]
theorem bcK_flip (K v w : Nat) (hv : v < K) : (bcK K (w ^^^ 2 ^ v) + bcK K w) % 2 = 1 := by
  induction K with
  | zero => omega
  | succ K ih =>
    simp only [bcK, Nat.testBit_xor, Nat.testBit_two_pow]
    by_cases e : v = K
    · subst e
      have same : ∀ K', K' ≤ v → bcK K' (w ^^^ 2 ^ v) = bcK K' w := fun K' => by
        induction K' with
        | zero => intro _; rfl
        | succ K' ih' =>
          intro h
          simp only [bcK, Nat.testBit_xor, Nat.testBit_two_pow, ih' (by omega)]
          rw [show decide (v = K') = false by simp; omega, Bool.xor_false]
      rw [same v (Nat.le_refl _)]
      cases w.testBit v <;> simp <;> omega
    · have := ih (by omega)
      rw [show decide (v = K) = false by simpa using e, Bool.xor_false]
      split <;> omega

/-- The sign of a word: -1 to the number of its bits. -/
def sgn (K w : Nat) : Int := if bcK K w % 2 = 0 then 1 else -1
theorem sgn_flip (K v w : Nat) (hv : v < K) : sgn K (w ^^^ 2 ^ v) = - sgn K w := by
  have := bcK_flip K v w hv
  unfold sgn
  split <;> split <;> omega
theorem sgn_mul (K : Nat) {s w : Nat} (h : Sub s w) : sgn K w = sgn K s * sgn K (w ^^^ s) := by
  have := bcK_add K h
  unfold sgn
  split <;> split <;> split <;> omega
theorem sgn_sq (K w : Nat) : sgn K w * sgn K w = 1 := by unfold sgn; split <;> rfl
theorem sgn_zero (K : Nat) : sgn K 0 = 1 := by unfold sgn; rw [bcK_zero]; rfl

end Go.Proofs.YtoblkmbmacimiaaDoor.L
