/- Plain: what the reference's count of the colourings comes to. -/
import Derived.Test.YtoblkmbmacimiaaDoorSorts
namespace Go.Proofs.YtoblkmbmacimiaaDoor.L
open Go Go.RowKit Go.Proofs.YtoblkmbmacimiaaDoor.B Go.Proofs.YtoblkmbmacimiaaDoorW.PrintWords Go.Proofs.YtoblkmbmacimiaaDoorW.PrintMore Go.Proofs.YtoblkmbmacimiaaDoor.G

theorem wrap_form (a : Int) : ∃ q, wrap64 a = a + 18446744073709551616 * q := ⟨(wrap64 a - a) / 18446744073709551616, by unfold wrap64; omega⟩
theorem wrap_plus (a q : Int) : wrap64 (a + 18446744073709551616 * q) = wrap64 a := by unfold wrap64; omega
theorem wrap_mul (a b : Int) : wrap64 (wrap64 a * wrap64 b) = wrap64 (a * b) := by
  obtain ⟨p, hp⟩ := wrap_form a
  obtain ⟨q, hq⟩ := wrap_form b
  have : (a + 18446744073709551616 * p) * (b + 18446744073709551616 * q) = a * b + 18446744073709551616 * (p * b + a * q + 18446744073709551616 * (p * q)) := by
    simp only [Int.add_mul, Int.mul_add, Int.mul_assoc, Int.mul_left_comm]
    omega
  rw [hp, hq, this, wrap_plus]

/-- c (c-1) .. down, so many. -/
def fall (c : Int) : Nat → Int
  | 0 => 1
  | j + 1 => fall c j * (c - j)
theorem fall_minus (j : Nat) : fall (-1) j = alt j := by
  induction j with
  | zero => rfl
  | succ j ih =>
    rw [fall, ih, alt_succ, show (-1 - (j : Int)) = -((j : Int) + 1) by omega, Int.mul_neg, Int.mul_comm]

theorem count_l1 (c : Int) (n j : Nat) (hj : j ≤ 10) (a x5 : Int) (xs : List Int) (R : Int)
    (next : Ev (fun k => teamsterref_Count.l0 k c (wrap64 (x5 + wrap64 (a * fall c j))) xs (xs.length : Int) (wrap64 ((j : Int) + 1))) R) :
    ∀ d i, i + d = j → Ev (fun k => teamsterref_Count.l1 k c x5 (j : Int) (wrap64 (a * fall c i)) (i : Int) xs (xs.length : Int) (j : Int)) R := by
  intro d
  induction d with
  | zero =>
    intro i hi
    obtain rfl : i = j := by omega
    refine Ev.step (fun k => ?_) next
    conv => lhs; rw [teamsterref_Count.l1]
    rw [if_neg (by omega)]
  | succ d ih =>
    intro i hi
    have hw1 : wrap64 ((i : Int) + 1) = ((i + 1 : Nat) : Int) := by rw [w64 (by omega) (by omega)]; omega
    refine Ev.step (fun k => ?_) (ih (i + 1) (by omega))
    conv => lhs; rw [teamsterref_Count.l1]
    rw [if_pos (by omega), hw1, wrap_mul, fall, Int.mul_assoc]

theorem count_l0 (c : Int) (n : Nat) (h10 : n ≤ 10) (Q : Nat → Bool) (v : Nat) (row : List Int) (h : RowI n Q v row) : ∀ d j, j + d = n + 1 → ∀ x, Ev (fun k => teamsterref_Count.l0 k c (wrap64 (x + sumR j fun i => fall c i * A Q i v)) row (row.length : Int) (j : Int)) (wrap64 (x + sumR (n + 1) fun i => fall c i * A Q i v)) := by
  intro d
  induction d with
  | zero =>
    intro j hj x
    obtain rfl : j = n + 1 := by omega
    have := h.1
    refine Ev.step (g := fun _ => some _) (fun k => ?_) (.const _)
    rw [teamsterref_Count.l0, if_neg (by omega)]
  | succ d ih =>
    intro j hj x
    have hlen := h.1
    have hw1 : wrap64 ((j : Int) + 1) = ((j + 1 : Nat) : Int) := by rw [w64 (by omega) (by omega)]; omega
    have := count_l1 c n j (by omega) (A Q j v) (wrap64 (x + sumR j fun i => fall c i * A Q i v)) row _ (by
      rw [hw1, wrap_add, show x + (sumR j fun i => fall c i * A Q i v) + A Q j v * fall c j = x + sumR (j + 1) fun i => fall c i * A Q i v by
        simp only [sumR]; rw [Int.mul_comm (A Q j v)]; omega]
      exact ih (j + 1) (by omega) x) j 0 (by omega)
    refine Ev.step (fun k => ?_) this
    conv => lhs; rw [teamsterref_Count.l0]
    rw [if_pos (by omega), if_pos (by omega), if_pos (by omega), h.2 j (by omega), fall, Int.mul_one]
    rfl

theorem count_is {n : Nat} {l : List S57} (g : Good n l) (c : Int) : Ev (fun k => teamsterref_Count.f k (n : Int) l c) (wrap64 (sumR (n + 1) fun i => fall c i * A (apartB (E l)) i (2 ^ n - 1))) := by
  obtain ⟨row, hr, hev⟩ := sorts_is g
  unfold teamsterref_Count.f
  refine Ev.bind hev ?_
  have := count_l0 c n g.n10 _ _ row hr (n + 1) 0 (by omega) 0
  simp only [Int.zero_add] at this
  refine Ev.congr (fun k => ?_) this
  rw [show sumR 0 (fun i => fall c i * A (apartB (E l)) i (2 ^ n - 1)) = 0 from rfl, wrap_zero]
  rfl

end Go.Proofs.YtoblkmbmacimiaaDoor.L
