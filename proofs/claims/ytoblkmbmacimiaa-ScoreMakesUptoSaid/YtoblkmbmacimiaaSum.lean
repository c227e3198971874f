/- Plain: finite sums of integers over the numbers below a bound. -/
namespace Go.Proofs.Ytoblkmbmacimiaa.L

/-- The sum of f over the numbers below n. -/
def sumR : Nat → (Nat → Int) → Int
  | 0, _ => 0
  | n + 1, f => sumR n f + f n

theorem sumR_congr {n : Nat} {f g : Nat → Int} (h : ∀ i, i < n → f i = g i) : sumR n f = sumR n g := by
  induction n with
  | zero => rfl
  | succ n ih => simp only [sumR]; rw [ih fun i hi => h i (by omega), h n (by omega)]
theorem sumR_zero {n : Nat} {f : Nat → Int} (h : ∀ i, i < n → f i = 0) : sumR n f = 0 := by
  induction n with
  | zero => rfl
  | succ n ih => simp only [sumR]; rw [ih fun i hi => h i (by omega), h n (by omega)]; rfl
theorem sumR_add (n : Nat) (f g : Nat → Int) : sumR n (fun i => f i + g i) = sumR n f + sumR n g := by
  induction n with
  | zero => rfl
  | succ n ih => simp only [sumR, ih]; omega
theorem sumR_neg (n : Nat) (f : Nat → Int) : sumR n (fun i => - f i) = - sumR n f := by
  induction n with
  | zero => rfl
  | succ n ih => simp only [sumR, ih]; omega
theorem sumR_mul (n : Nat) (c : Int) (f : Nat → Int) : sumR n (fun i => c * f i) = c * sumR n f := by
  induction n with
  | zero => simp [sumR]
  | succ n ih => simp only [sumR, ih, Int.mul_add]
theorem sumR_swap (n m : Nat) (f : Nat → Nat → Int) : sumR n (fun i => sumR m fun j => f i j) = sumR m fun j => sumR n fun i => f i j := by
  induction n with
  | zero => simp only [sumR]; exact (sumR_zero fun _ _ => rfl).symm
  | succ n ih => simp only [sumR, ih, sumR_add]
theorem sumR_le {n m : Nat} (h : n ≤ m) {f : Nat → Int} (hf : ∀ i, n ≤ i → i < m → f i = 0) : sumR m f = sumR n f := by
  induction m with
  | zero => obtain rfl : n = 0 := by omega
            rfl
  | succ m ih =>
    by_cases e : n = m + 1
    · subst e; rfl
    · simp only [sumR]; rw [hf m (by omega) (by omega), ih (by omega) fun i h1 h2 => hf i h1 (by omega)]; omega
theorem sumR_if {n : Nat} (p : Prop) [Decidable p] (f : Nat → Int) : sumR n (fun i => if p then f i else 0) = if p then sumR n f else 0 := by
  by_cases h : p
  · simp [h]
  · simp only [h, if_false]; exact sumR_zero fun _ _ => rfl
theorem sumR_shift (n m : Nat) (f : Nat → Int) : sumR (n + m) f = sumR n f + sumR m fun i => f (n + i) := by
  induction m with
  | zero => simp [sumR]
  | succ m ih => rw [← Nat.add_assoc]; simp only [sumR, ih]; omega
theorem sumR_first (n : Nat) (f : Nat → Int) : sumR (n + 1) f = f 0 + sumR n fun i => f (i + 1) := by
  rw [Nat.add_comm, sumR_shift]
  simp only [sumR, Int.zero_add]
  congr 1
  exact sumR_congr fun i _ => by rw [Nat.add_comm]

theorem sumR_sub (n : Nat) (f g : Nat → Int) : sumR n (fun i => f i - g i) = sumR n f - sumR n g := by
  induction n with
  | zero => rfl
  | succ n ih => simp only [sumR, ih]; omega
theorem sumR_mono {n : Nat} {f g : Nat → Int} (h : ∀ i, i < n → f i ≤ g i) : sumR n f ≤ sumR n g := by
  induction n with
  | zero => exact Int.le_refl _
  | succ n ih => simp only [sumR]; have := ih fun i hi => h i (by omega); have := h n (by omega); omega
theorem sumR_nonneg {n : Nat} {f : Nat → Int} (h : ∀ i, i < n → 0 ≤ f i) : 0 ≤ sumR n f := by
  have := sumR_mono (n := n) (f := fun _ => 0) h
  rwa [sumR_zero fun _ _ => rfl] at this
theorem sumR_at {n v : Nat} (h : v < n) (c : Int) : sumR n (fun i => if i = v then c else 0) = c := by
  induction n with
  | zero => omega
  | succ n ih =>
    simp only [sumR]
    by_cases e : v = n
    · subst e
      rw [sumR_zero fun i hi => if_neg (by omega), if_pos rfl]; omega
    · rw [ih (by omega), if_neg (by omega)]; omega
theorem sumR_le_at {n v : Nat} (h : v < n) {f : Nat → Int} (hf : ∀ i, i < n → 0 ≤ f i) : f v ≤ sumR n f := by
  have := sumR_mono (n := n) (f := fun i => if i = v then f v else 0) (g := f) fun i hi => by
    split
    · rename_i e; rw [e]; exact Int.le_refl _
    · exact hf i hi
  rwa [sumR_at h] at this

end Go.Proofs.Ytoblkmbmacimiaa.L
