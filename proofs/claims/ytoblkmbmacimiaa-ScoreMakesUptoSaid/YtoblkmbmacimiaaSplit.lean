/- Plain: Erdos and Gallai's sums of a list: the order does not matter, and in a falling order the first ones are enough. -/
import Derived.Test.YtoblkmbmacimiaaErdos
import Derived.Test.YtoblkmbmacimiaaGZero
namespace Go.Proofs.Ytoblkmbmacimiaa.L
open Go.Proofs.YtoblkmbmacimiaaW.PrintWords

def at_ (l : List Int) (i : Nat) : Int := rd l (i : Int)
theorem at_cons_zero (a : Int) (l : List Int) : at_ (a :: l) 0 = a := rfl
theorem at_cons_succ (a : Int) (l : List Int) (i : Nat) : at_ (a :: l) (i + 1) = at_ l i := by
  unfold at_ rd; rw [Int.toNat_natCast, Int.toNat_natCast]; rfl
theorem at_get (l : List Int) (i : Nat) (h : i < l.length) : at_ l i = l[i] := by
  unfold at_ rd; rw [Int.toNat_natCast, List.getD_eq_getElem?_getD, List.getElem?_eq_getElem h]; rfl

inductive Spl : List Int → List Int → List Int → Prop
  | nil : Spl [] [] []
  | inl {l xs ys} (a : Int) : Spl l xs ys → Spl (a :: l) (a :: xs) ys
  | inr {l xs ys} (a : Int) : Spl l xs ys → Spl (a :: l) xs (a :: ys)

def lsum (f : Int → Int) : List Int → Int
  | [] => 0
  | a :: l => f a + lsum f l
theorem lsum_perm (f : Int → Int) {l l' : List Int} (h : l.Perm l') : lsum f l = lsum f l' := by
  induction h with
  | nil => rfl
  | cons a _ ih => simp only [lsum, ih]
  | swap a b l => simp only [lsum]; omega
  | trans _ _ h1 h2 => rw [h1, h2]

theorem spl_of (l : List Int) (S : Nat → Bool) : ∃ xs ys, Spl l xs ys ∧ ∀ f g : Int → Int, sumR l.length (fun i => if S i = true then f (at_ l i) else g (at_ l i)) = lsum f xs + lsum g ys := by
  induction l generalizing S with
  | nil => exact ⟨[], [], .nil, fun _ _ => rfl⟩
  | cons a l ih =>
    obtain ⟨xs, ys, h1, h2⟩ := ih fun i => S (i + 1)
    have e : ∀ f g : Int → Int, sumR (a :: l).length (fun i => if S i = true then f (at_ (a :: l) i) else g (at_ (a :: l) i)) = (if S 0 = true then f a else g a) + (lsum f xs + lsum g ys) := fun f g => by
      rw [List.length_cons, sumR_first, ← h2 f g]
      simp only [at_cons_zero, at_cons_succ]
    cases hS : S 0
    · refine ⟨xs, a :: ys, .inr a h1, fun f g => ?_⟩
      rw [e, hS]; simp only [lsum, Bool.false_eq_true, if_false]; omega
    · refine ⟨a :: xs, ys, .inl a h1, fun f g => ?_⟩
      rw [e, hS]; simp only [lsum, if_true]; omega
theorem of_spl {l xs ys : List Int} (h : Spl l xs ys) : ∃ S : Nat → Bool, ∀ f g : Int → Int, sumR l.length (fun i => if S i = true then f (at_ l i) else g (at_ l i)) = lsum f xs + lsum g ys := by
  induction h with
  | nil => exact ⟨fun _ => true, fun _ _ => rfl⟩
  | @inl l xs ys a _ ih =>
    obtain ⟨S, hS⟩ := ih
    refine ⟨fun i => match i with | 0 => true | i + 1 => S i, fun f g => ?_⟩
    rw [List.length_cons, sumR_first]
    simp only [at_cons_zero, at_cons_succ, lsum, if_true]
    rw [hS]; omega
  | @inr l xs ys a _ ih =>
    obtain ⟨S, hS⟩ := ih
    refine ⟨fun i => match i with | 0 => false | i + 1 => S i, fun f g => ?_⟩
    rw [List.length_cons, sumR_first]
    simp only [at_cons_zero, at_cons_succ, lsum, Bool.false_eq_true, if_false]
    rw [hS]; omega
theorem spl_perm {l l' : List Int} (h : l.Perm l') : ∀ {xs ys}, Spl l xs ys → ∃ xs' ys', Spl l' xs' ys' ∧ xs.Perm xs' ∧ ys.Perm ys' := by
  induction h with
  | nil => intro xs ys h; exact ⟨xs, ys, h, .refl _, .refl _⟩
  | cons a _ ih =>
    intro xs ys h
    cases h with
    | inl _ h => obtain ⟨xs', ys', k, p, q⟩ := ih h; exact ⟨a :: xs', ys', .inl a k, p.cons a, q⟩
    | inr _ h => obtain ⟨xs', ys', k, p, q⟩ := ih h; exact ⟨xs', a :: ys', .inr a k, p, q.cons a⟩
  | swap a b l =>
    intro xs ys h
    cases h with
    | inl _ h => cases h with
      | inl _ h => exact ⟨_, _, .inl _ (.inl _ h), .swap _ _ _, .refl _⟩
      | inr _ h => exact ⟨_, _, .inr _ (.inl _ h), .refl _, .refl _⟩
    | inr _ h => cases h with
      | inl _ h => exact ⟨_, _, .inl _ (.inr _ h), .refl _, .refl _⟩
      | inr _ h => exact ⟨_, _, .inr _ (.inr _ h), .refl _, .swap _ _ _⟩
  | trans _ _ h1 h2 =>
    intro xs ys h
    obtain ⟨x1, y1, k1, p1, q1⟩ := h1 h
    obtain ⟨x2, y2, k2, p2, q2⟩ := h2 k1
    exact ⟨x2, y2, k2, p1.trans p2, q1.trans q2⟩

theorem lsum_zero (l : List Int) : lsum (fun _ => 0) l = 0 := by
  induction l with
  | nil => rfl
  | cons a l ih => simp only [lsum, ih]; rfl

/-- A set of a list with its sums, in another order. -/
theorem viol_perm {l l' : List Int} (h : l.Perm l') (S : Nat → Bool) (hV : Viol l.length (at_ l) S) : ∃ S', Viol l'.length (at_ l') S' := by
  obtain ⟨xs, ys, h1, h2⟩ := spl_of l S
  obtain ⟨xs', ys', k1, p, q⟩ := spl_perm h h1
  obtain ⟨S', h3⟩ := of_spl k1
  refine ⟨S', ?_⟩
  have ec : cntR l'.length S' = cntR l.length S := by
    have e1 := h2 (fun _ => 1) (fun _ => 0)
    have e2 := h3 (fun _ => 1) (fun _ => 0)
    rw [lsum_zero] at e1 e2
    unfold cntR
    rw [e1, e2, lsum_perm _ p]
  have ei : inS l'.length S' (at_ l') = inS l.length S (at_ l) := by
    have e1 := h2 (fun x => x) (fun _ => 0)
    have e2 := h3 (fun x => x) (fun _ => 0)
    rw [lsum_zero] at e1 e2
    unfold inS
    rw [e1, e2, lsum_perm _ p]
  have eo : ∀ s, outS l'.length S' (at_ l') s = outS l.length S (at_ l) s := fun s => by
    have e1 := h2 (fun _ => 0) (fun x => min x s)
    have e2 := h3 (fun _ => 0) (fun x => min x s)
    rw [lsum_zero] at e1 e2
    unfold outS
    rw [e1, e2, lsum_perm _ q]
  unfold Viol at *
  rw [ec, ei, eo]; exact hV
theorem eg_perm {l l' : List Int} (h : l.Perm l') : EG l.length (at_ l) ↔ EG l'.length (at_ l') := by
  constructor
  · intro hE S hV
    obtain ⟨S', h'⟩ := viol_perm h.symm S hV
    exact hE S' h'
  · intro hE S hV
    obtain ⟨S', h'⟩ := viol_perm h S hV
    exact hE S' h'
theorem sum_lsum (l : List Int) : sumR l.length (at_ l) = lsum (fun x => x) l := by
  induction l with
  | nil => rfl
  | cons a l ih =>
    rw [List.length_cons, sumR_first, lsum, ← ih]
    simp only [at_cons_zero, at_cons_succ]

/-! ### In a falling order -/
def first (k : Nat) : Nat → Bool := fun i => decide (i < k)
theorem sum_first {n k : Nat} (h : k ≤ n) (f g : Nat → Int) : sumR n (fun i => if first k i = true then f i else g i) = sumR k f + sumR (n - k) fun p => g (k + p) := by
  obtain ⟨m, rfl⟩ : ∃ m, n = k + m := ⟨n - k, by omega⟩
  rw [sumR_shift, show k + m - k = m by omega]
  congr 1
  · exact sumR_congr fun i hi => by rw [if_pos (by simp [first, hi])]
  · exact sumR_congr fun i hi => by rw [if_neg (by simp [first])]
theorem sumR_const (n : Nat) (c : Int) : sumR n (fun _ => c) = c * n := by
  induction n with
  | zero => simp [sumR]
  | succ n ih => simp only [sumR, ih]; rw [Int.natCast_succ, Int.mul_add, Int.mul_one]
theorem cnt_first {n k : Nat} (h : k ≤ n) : cntR n (first k) = k := by
  unfold cntR
  rw [sum_first h, sumR_const, sumR_zero fun _ _ => rfl]; omega

/-- One of the sums of the first ones. -/
def Pre (n : Nat) (d : Nat → Int) (k : Nat) : Prop := sumR (k + 1) d ≤ ((k : Int) + 1) * k + sumR (n - (k + 1)) fun p => min (d (k + 1 + p)) ((k : Int) + 1)
theorem viol_first {n k : Nat} (d : Nat → Int) (h : k < n) : Viol n d (first (k + 1)) ↔ ¬ Pre n d k := by
  unfold Viol Pre
  rw [cnt_first (by omega)]
  have e1 : inS n (first (k + 1)) d = sumR (k + 1) d := by
    unfold inS; rw [sum_first (by omega), sumR_zero (n := n - (k + 1)) fun _ _ => rfl]; omega
  have e2 : outS n (first (k + 1)) d ((k + 1 : Nat) : Int) = sumR (n - (k + 1)) fun p => min (d (k + 1 + p)) ((k : Int) + 1) := by
    unfold outS; rw [sum_first (by omega), sumR_zero (n := k + 1) fun _ _ => rfl, Int.zero_add]; rfl
  rw [e1, e2, show ((k + 1 : Nat) : Int) - 1 = k by omega, show ((k + 1 : Nat) : Int) = (k : Int) + 1 by omega]
  omega

theorem eg_falling {n : Nat} {d : Nat → Int} (h0 : ∀ i, i < n → 0 ≤ d i) (hd : ∀ i j, i ≤ j → j < n → d j ≤ d i) : EG n d ↔ ∀ k, k < n → Pre n d k := by
  constructor
  · intro hE k hk
    apply Classical.byContradiction
    intro hn
    exact hE _ ((viol_first d hk).2 hn)
  · intro hP S hV
    have hc := cntR_nonneg n S
    have hcn : cntR n S ≤ n := by
      have := sumR_mono (n := n) (f := fun i => if S i = true then 1 else 0) (g := fun _ => 1) fun i _ => by split <;> omega
      rw [sumR_const] at this
      unfold cntR; omega
    obtain ⟨K, hK⟩ : ∃ K : Nat, cntR n S = K := ⟨(cntR n S).toNat, by omega⟩
    cases K with
    | zero =>
      have hall : ∀ i, i < n → S i = false := fun i hi => by
        cases hS : S i
        · rfl
        · have := sumR_le_at (n := n) (v := i) hi (f := fun i => if S i = true then 1 else 0) fun j _ => by split <;> omega
          simp only [hS, if_true] at this
          unfold cntR at hK; omega
      have e1 : inS n S d = 0 := sumR_zero fun i hi => by rw [if_neg (by simp [hall i hi])]
      have e2 : 0 ≤ outS n S d 0 := sumR_nonneg fun i hi => by have := h0 i hi; split <;> omega
      unfold Viol at hV
      rw [e1, hK] at hV
      have : ((0 : Nat) : Int) = 0 := rfl
      rw [this] at hV
      omega
    | succ k =>
      have hkn : k < n := by omega
      refine (viol_first d hkn).1 ?_ (hP k hkn)
      unfold Viol at *
      rw [cnt_first (by omega)]
      rw [hK] at hV
      generalize hs : ((k + 1 : Nat) : Int) = s at *
      have key := sumR_mono (n := n) (f := fun i => ((if S i = true then d i else 0) - if S i = true then 0 else min (d i) s) - (d k + min (d k) s) * (if S i = true then 1 else 0))
        (g := fun i => ((if first (k + 1) i = true then d i else 0) - if first (k + 1) i = true then 0 else min (d i) s) - (d k + min (d k) s) * (if first (k + 1) i = true then 1 else 0)) fun i hi => by
          by_cases hik : i < k + 1
          · have := hd i k (by omega) hkn
            have hf : first (k + 1) i = true := by simp [first, hik]
            cases hS : S i <;> simp only [hf] <;> simp <;> omega
          · have := hd k i (by omega) hi
            have hf : first (k + 1) i = false := by simp only [first, hik, decide_false]
            cases hS : S i <;> simp only [hf] <;> simp <;> omega
      rw [sumR_sub, sumR_sub, sumR_sub, sumR_sub, sumR_mul, sumR_mul] at key
      have c1 : sumR n (fun i => if S i = true then (1 : Int) else 0) = s := hK
      have c2 : sumR n (fun i => if first (k + 1) i = true then (1 : Int) else 0) = s := by rw [← hs]; exact cnt_first (by omega)
      rw [c1, c2] at key
      unfold inS outS at *
      omega

end Go.Proofs.Ytoblkmbmacimiaa.L
