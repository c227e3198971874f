/- Plain: what the reference's table of colourings comes to: in how many ways a set falls into so many loose ones. Plain: what the reference's count of the colourings comes to. -/
import Derived.Test.YtoblkmbmacimiaaDoorTurned
import Derived.Test.YtoblkmbmacimiaaDoorGteamsterrefSorts
import Derived.Test.YtoblkmbmacimiaaDoorGteamsterrefCount

namespace Go.Proofs.YtoblkmbmacimiaaDoor.L
open Go Go.RowKit Go.Proofs.YtoblkmbmacimiaaDoor.B Go.Proofs.YtoblkmbmacimiaaDoorW.PrintWords Go.Proofs.YtoblkmbmacimiaaDoorW.PrintMore Go.Proofs.YtoblkmbmacimiaaDoor.G

/-- A row of the table. -/
def RowI (n : Nat) (Q : Nat → Bool) (v : Nat) (row : List Int) : Prop := row.length = n + 1 ∧ ∀ j, j ≤ n → rd row (j : Int) = wrap64 (A Q j v)
structure TI (n : Nat) (Q : Nat → Bool) (w : Nat) (many : List (List Int)) : Prop where
  len : many.length = 2 ^ n
  low : ∀ v, v < w → RowI n Q v (rd_L3 many (v : Int))

/-- One part of the sum for a row. -/
def part (Q : Nat → Bool) (w j r : Nat) : Int := if Sub r w ∧ r.testBit (Nat.log2 w) = true ∧ Q r = true then A Q j (w ^^^ r) else 0

theorem rdL_set (xs : List (List Int)) (a v : Nat) (x : List Int) (h : a < xs.length) : rd_L3 (xs.set a x) (v : Int) = if a = v then x else rd_L3 xs (v : Int) := by
  unfold rd_L3
  rw [Int.toNat_natCast, List.getD_eq_getElem?_getD, List.getD_eq_getElem?_getD, List.getElem?_set]
  by_cases e : a = v
  · rw [if_pos e, if_pos h, if_pos e]; rfl
  · rw [if_neg e, if_neg e]

section
variable {n : Nat} {l : List S57}

/-- The innermost loop adds one row onto another, one place on. -/
theorem sorts_l3 (hn10 : n ≤ 10) {w s : Nat} (hw : w < 2 ^ n) (hs : Sub s w) (many : List (List Int)) (t : Nat) (R : List Int) (hlen : many.length = 2 ^ n) {src : List Int} (hsrc : rd_L3 many ((w ^^^ s : Nat) : Int) = src) (hsl : src.length = n + 1) :
    ∀ d j, j + d = n → ∀ row : List Int, row.length = n + 1 →
      ∃ row', row'.length = n + 1 ∧ (∀ i, i ≤ j → rd row' (i : Int) = rd row (i : Int)) ∧ (∀ i, j ≤ i → i < n → rd row' ((i + 1 : Nat) : Int) = wrap64 (rd row ((i + 1 : Nat) : Int) + rd src (i : Int))) ∧
        (Ev (fun k => teamsterref_Sorts.l2 k (n : Int) many (w : Int) row' (t : Int) (bits .and .u32 (((s : Int) - 1) % 4294967296) (w : Int)) (n : Int) l) R → Ev (fun k => teamsterref_Sorts.l3 k (n : Int) many (w : Int) row (t : Int) (s : Int) (j : Int) (n : Int) l) R) := by
  have hp : 2 ^ n ≤ 2 ^ 10 := Nat.pow_le_pow_right (by decide) hn10
  have hsw := hs.le
  intro d
  induction d with
  | zero =>
    intro j hj row hr
    obtain rfl : j = n := by omega
    refine ⟨row, hr, fun _ _ => rfl, fun i h1 h2 => by omega, fun h => Ev.step (fun k => ?_) h⟩
    conv => lhs; rw [teamsterref_Sorts.l3]
    rw [if_neg (by omega)]
  | succ d ih =>
    intro j hj row hr
    have hlt : j < n := by omega
    have hw1 : wrap64 ((j : Int) + 1) = ((j + 1 : Nat) : Int) := by rw [w64 (by omega) (by omega)]; omega
    have hdl : w ^^^ s < 2 ^ n := by
      have := (diff_sub hs).le; omega
    obtain ⟨row', k1, k2, k3, k4⟩ := ih (j + 1) (by omega) (row.set (j + 1) (wrap64 (rd row ((j + 1 : Nat) : Int) + rd src (j : Int)))) (by rw [List.length_set, hr])
    refine ⟨row', k1, fun i hi => ?_, fun i h1 h2 => ?_, fun h => Ev.step (fun k => ?_) (k4 h)⟩
    · rw [k2 i (by omega), rd_set _ _ _ _ (by omega), if_neg (by omega)]
    · by_cases e : i = j
      · subst e
        rw [k2 (i + 1) (by omega), rd_set _ _ _ _ (by omega), if_pos rfl]
      · rw [k3 i (by omega) h2, rd_set _ _ _ _ (by omega), if_neg (by omega)]
    · conv => lhs; rw [teamsterref_Sorts.l3]
      rw [if_pos (by omega), hw1, if_pos (by omega), if_pos (by omega), andNot_u32 w s (by omega) (by omega) hs, if_pos (by omega), if_pos (by omega), if_pos (by omega), hsrc, if_pos (by omega), Int.toNat_natCast]

theorem sorts_l2 (g : Good n l) {w : Nat} (h0w : w ≠ 0) (hw : w < 2 ^ n) (many : List (List Int)) (hm : TI n (apartB (E l)) w many) (R : List Int)
    (next : ∀ many', TI n (apartB (E l)) (w + 1) many' → Ev (fun k => teamsterref_Sorts.l0 k (n : Int) many' ((w + 1 : Nat) : Int) (n : Int) l) R) :
    ∀ s, Sub s w → ∀ row (c : Nat → Int), row.length = n + 1 → rd row 0 = 0 → (∀ j, j < n → rd row ((j + 1 : Nat) : Int) = wrap64 (c j) ∧ c j + sumR (s + 1) (part (apartB (E l)) w j) = A (apartB (E l)) (j + 1) w) →
      Ev (fun k => teamsterref_Sorts.l2 k (n : Int) many (w : Int) row (Nat.log2 w : Int) (s : Int) (n : Int) l) R := by
  have h10 := g.n10
  have hp : 2 ^ n ≤ 2 ^ 10 := Nat.pow_le_pow_right (by decide) h10
  have htop : Nat.log2 w < n := lt_of_bit hw (top_bit h0w)
  intro s
  induction s using Nat.strongRecOn with
  | _ s ih =>
    intro hs row c hr hz hc
    have hsw := hs.le
    by_cases h0 : s = 0
    · subst h0
      have hlen := hm.len
      refine Ev.step (fun k => ?_) (next (many.set w row) ⟨by rw [List.length_set, hm.len], fun v hv => ?_⟩)
      · conv => lhs; rw [teamsterref_Sorts.l2]
        rw [if_neg (by omega), if_pos (by omega), if_pos (by omega), show (((w : Int) + 1) % 4294967296) = ((w + 1 : Nat) : Int) by omega, Int.toNat_natCast]
      · rw [rdL_set _ _ _ _ (by omega)]
        by_cases e : w = v
        · subst e
          rw [if_pos rfl]
          refine ⟨hr, fun j hj => ?_⟩
          cases j with
          | zero => rw [show A (apartB (E l)) 0 w = 0 by rw [A, if_neg h0w], wrap_zero]; exact hz
          | succ j =>
            obtain ⟨h1, h2⟩ := hc j (by omega)
            have : sumR (0 + 1) (part (apartB (E l)) w j) = 0 := by simp [sumR, part]
            rw [this, Int.add_zero] at h2
            rw [h1, h2]
        · rw [if_neg e]; exact hm.low v (by omega)
    · obtain ⟨x1, x2, x3⟩ := next_sub hs h0 (by omega)
      have ha : bits .and .u32 (((s : Int) - 1) % 4294967296) (w : Int) = (((s - 1) &&& w : Nat) : Int) := by
        rw [show (((s : Int) - 1) % 4294967296) = ((s - 1 : Nat) : Int) by omega, B.and_u32 _ _ (by omega) (by omega)]
      have hsum : ∀ j, sumR (s + 1) (part (apartB (E l)) w j) = sumR (((s - 1) &&& w) + 1) (part (apartB (E l)) w j) + part (apartB (E l)) w j s := fun j => by
        show sumR s (part (apartB (E l)) w j) + _ = _
        rw [sumR_le (n := ((s - 1) &&& w) + 1) (m := s) (f := part (apartB (E l)) w j) (by omega) fun i h1 h2 => if_neg fun (hh : Sub i w ∧ i.testBit (Nat.log2 w) = true ∧ apartB (E l) i = true) => by have := x3 i hh.1 h2; omega]
      have skip : ¬ (s.testBit (Nat.log2 w) = true ∧ apartB (E l) s = true) → Ev (fun k => teamsterref_Sorts.l2 k (n : Int) many (w : Int) row (Nat.log2 w : Int) (bits .and .u32 (((s : Int) - 1) % 4294967296) (w : Int)) (n : Int) l) R := fun hq => by
        rw [ha]
        refine ih _ x2 x1 row c hr hz fun j hj => ⟨(hc j hj).1, ?_⟩
        rw [← (hc j hj).2, hsum j, show part (apartB (E l)) w j s = 0 from if_neg fun hh => hq hh.2]; omega
      cases hb : s.testBit (Nat.log2 w)
      · have := skip (by rw [hb]; simp)
        refine Ev.step (g := fun k => teamsterref_Sorts.j3 k (n : Int) many (w : Int) row (Nat.log2 w : Int) (s : Int) false (n : Int) l) (fun k => ?_) (Ev.step (fun k => ?_) this)
        · conv => lhs; rw [teamsterref_Sorts.l2]
          rw [if_pos (by omega), bit_is s _ (by omega) (by omega), hb]
          rfl
        · conv => lhs; rw [teamsterref_Sorts.j3]
          rw [if_neg (by simp)]
      · refine Ev.step (g := fun k => (teamsterref_Loose.f k n l (s : Int)).bind fun t164 => teamsterref_Sorts.j3 k (n : Int) many (w : Int) row (Nat.log2 w : Int) (s : Int) t164 (n : Int) l) (fun k => ?_) (Ev.bind (loose_is g (by omega) n) ?_)
        · conv => lhs; rw [teamsterref_Sorts.l2]
          rw [if_pos (by omega), bit_is s _ (by omega) (by omega), hb]
          rfl
        · cases hq : apartB (E l) s
          · have := skip (by rw [hq]; simp)
            refine Ev.step (fun k => ?_) this
            conv => lhs; rw [teamsterref_Sorts.j3]
            rw [if_neg (by simp)]
          · have hlt := diff_lt hs h0
            have hrow := hm.low _ hlt
            obtain ⟨row', k1, k2, k3, k4⟩ := sorts_l3 (l := l) h10 hw hs many (Nat.log2 w) R hm.len rfl hrow.1 n 0 (by omega) row hr
            have := k4 (by
              rw [ha]
              refine ih _ x2 x1 row' (fun j => c j + A (apartB (E l)) j (w ^^^ s)) k1 ((k2 0 (Nat.le_refl _)).trans hz) fun j hj => ⟨?_, ?_⟩
              · rw [k3 j (by omega) hj, (hc j hj).1, hrow.2 j (by omega), wrap_add]
              · rw [← (hc j hj).2, hsum j, show part (apartB (E l)) w j s = A (apartB (E l)) j (w ^^^ s) from if_pos ⟨hs, hb, hq⟩]; omega)
            refine Ev.step (fun k => ?_) this
            conv => lhs; rw [teamsterref_Sorts.j3]
            rw [if_pos rfl]; rfl

/-- The greatest member, found from below. -/
theorem sorts_l1 (hn10 : n ≤ 10) {w : Nat} (h0w : w ≠ 0) (hw : w < 2 ^ n) (many : List (List Int)) (row : List Int) (R : List Int)
    (next : Ev (fun k => teamsterref_Sorts.l2 k (n : Int) many (w : Int) row (Nat.log2 w : Int) (w : Int) (n : Int) l) R) :
    ∀ d i, i + d = n → ∀ t : Nat, (Nat.log2 w < i → t = Nat.log2 w) → Ev (fun k => teamsterref_Sorts.l1 k (n : Int) many (w : Int) row (t : Int) (i : Int) (n : Int) l) R := by
  have hp : 2 ^ n ≤ 2 ^ 10 := Nat.pow_le_pow_right (by decide) hn10
  have htop : Nat.log2 w < n := lt_of_bit hw (top_bit h0w)
  intro d
  induction d with
  | zero =>
    intro i hi t ht
    obtain rfl : t = Nat.log2 w := ht (by omega)
    refine Ev.step (fun k => ?_) next
    conv => lhs; rw [teamsterref_Sorts.l1]
    rw [if_neg (by omega)]
  | succ d ih =>
    intro i hi t ht
    have hw1 : wrap64 ((i : Int) + 1) = ((i + 1 : Nat) : Int) := by rw [w64 (by omega) (by omega)]; omega
    cases hb : w.testBit i
    · refine Ev.step (fun k => ?_) (ih (i + 1) (by omega) t fun h => ht ?_)
      · conv => lhs; rw [teamsterref_Sorts.l1]
        rw [if_pos (by omega), bit_is w i (by omega) (by omega), hb, hw1]
        rfl
      · have : Nat.log2 w ≠ i := fun e => by rw [← e, top_bit h0w] at hb; cases hb
        omega
    · refine Ev.step (fun k => ?_) (ih (i + 1) (by omega) i fun h => ?_)
      · conv => lhs; rw [teamsterref_Sorts.l1]
        rw [if_pos (by omega), bit_is w i (by omega) (by omega), hb, hw1]
        rfl
      · rcases Nat.lt_trichotomy i (Nat.log2 w) with h1 | h1 | h1
        · omega
        · exact h1
        · rw [above_top h1] at hb; cases hb

theorem sorts_l0 (g : Good n l) : ∀ d w, w + d = 2 ^ n → 0 < w → ∀ many, TI n (apartB (E l)) w many → ∃ row, RowI n (apartB (E l)) (2 ^ n - 1) row ∧ Ev (fun k => teamsterref_Sorts.l0 k (n : Int) many (w : Int) (n : Int) l) row := by
  have h10 := g.n10
  have hp : 2 ^ n ≤ 2 ^ 10 := Nat.pow_le_pow_right (by decide) h10
  have h1 := Nat.two_pow_pos n
  -- the same row whatever the table: it is fixed by its numbers
  have uniq : ∀ r1 r2, RowI n (apartB (E l)) (2 ^ n - 1) r1 → RowI n (apartB (E l)) (2 ^ n - 1) r2 → r1 = r2 := by
    intro r1 r2 a b
    apply List.ext_getElem (by rw [a.1, b.1])
    intro i i1 i2
    have e1 := a.2 i (by have := a.1; omega)
    have e2 := b.2 i (by have := b.1; omega)
    unfold rd at e1 e2
    rw [Int.toNat_natCast, List.getD_eq_getElem?_getD, List.getElem?_eq_getElem i1] at e1
    rw [Int.toNat_natCast, List.getD_eq_getElem?_getD, List.getElem?_eq_getElem i2] at e2
    simp only [Option.getD_some] at e1 e2
    rw [e1, e2]
  let R : List Int := (List.range (n + 1)).map fun j => wrap64 (A (apartB (E l)) j (2 ^ n - 1))
  have hR : RowI n (apartB (E l)) (2 ^ n - 1) R := by
    refine ⟨by simp [R], fun j hj => ?_⟩
    unfold rd
    rw [Int.toNat_natCast, List.getD_eq_getElem?_getD, List.getElem?_map, List.getElem?_range (by omega)]
    rfl
  suffices ∀ d w, w + d = 2 ^ n → 0 < w → ∀ many, TI n (apartB (E l)) w many → Ev (fun k => teamsterref_Sorts.l0 k (n : Int) many (w : Int) (n : Int) l) R from
    fun d w hw hpos many hm => ⟨R, hR, this d w hw hpos many hm⟩
  intro d
  induction d with
  | zero =>
    intro w hw hpos many hm
    obtain rfl : w = 2 ^ n := by omega
    have hlen := hm.len
    refine Ev.step (g := fun _ => some R) (fun k => ?_) (.const _)
    rw [teamsterref_Sorts.l0, hlen, if_neg (by omega), show wrap64 (((2 ^ n : Nat) : Int) - 1) = ((2 ^ n - 1 : Nat) : Int) by rw [w64 (by omega) (by omega)]; omega, if_pos (by omega), if_pos (by omega), uniq _ _ (hm.low _ (by omega)) hR]
  | succ d ih =>
    intro w hw hpos many hm
    have hlt : w < 2 ^ n := by omega
    have hlen := hm.len
    have rep : ∀ j : Nat, j ≤ n → rd (List.replicate (n + 1) 0) (j : Int) = 0 := fun j hj => by
      unfold rd
      rw [Int.toNat_natCast, List.getD_eq_getElem?_getD, List.getElem?_replicate, if_pos (by omega)]; rfl
    have L := sorts_l1 (l := l) h10 (w := w) (by omega) hlt many (List.replicate (n + 1) 0) R (sorts_l2 g (by omega) hlt many hm R (fun many' hm' => ih (w + 1) (by omega) (by omega) many' hm') w (sub_refl w) _ (fun _ => 0) (by simp) (rep 0 (by omega)) fun j hj => ⟨by rw [rep _ (by omega), wrap_zero], by
      rw [A_succ _ _ (by omega), Int.zero_add]; rfl⟩) n 0 (by omega) 0 (fun h => by omega)
    refine Ev.step (fun k => ?_) L
    conv => lhs; rw [teamsterref_Sorts.l0]
    have hw1 : wrap64 ((n : Int) + 1) = ((n + 1 : Nat) : Int) := by rw [w64 (by omega) (by omega)]; omega
    rw [hlen, if_pos (by omega), hw1, if_pos (by omega), if_pos (by omega)]
    rfl

theorem sorts_made (Q : Nat → Bool) (N : Nat) (hN : N = 2 ^ n) (hp : 0 < N) (h1 : n ≤ 10) : TI n Q 1 ((List.replicate N ([] : List Int)).set 0 ((List.replicate (n + 1) 0).set 0 1)) := by
  refine ⟨by rw [List.length_set, List.length_replicate, hN], fun v hv => ?_⟩
  obtain rfl : v = 0 := by omega
  rw [rdL_set _ _ _ _ (by rw [List.length_replicate]; exact hp), if_pos rfl]
  refine ⟨by rw [List.length_set, List.length_replicate], fun j hj => ?_⟩
  rw [rd_set _ _ _ _ (by rw [List.length_replicate]; omega)]
  cases j with
  | zero => rw [if_pos rfl, A, if_pos rfl, wrap_one]
  | succ j =>
    rw [if_neg (by omega), A_zero, wrap_zero]
    unfold rd
    rw [Int.toNat_natCast, List.getD_eq_getElem?_getD, List.getElem?_replicate, if_pos (by omega)]; rfl
theorem sorts_start (N : Nat) (hp : 0 < N) : rd_L3 ((List.replicate N ([] : List Int)).set 0 (List.replicate (n + 1) 0)) 0 = List.replicate (n + 1) 0 := by
  have := rdL_set (List.replicate N ([] : List Int)) 0 0 (List.replicate (n + 1) 0) (by rw [List.length_replicate]; exact hp)
  rw [if_pos rfl] at this; exact this
theorem sorts_f (h10 : n ≤ 10) (N : Nat) (hN : N = 2 ^ n) (h0 : 0 < N) (hp : N ≤ 1024) (k : Nat) : teamsterref_Sorts.f k (n : Int) l = teamsterref_Sorts.l0 k (n : Int) ((List.replicate N ([] : List Int)).set 0 ((List.replicate (n + 1) 0).set 0 1)) 1 (n : Int) l := by
  have hw1 : wrap64 ((n : Int) + 1) = ((n + 1 : Nat) : Int) := by rw [w64 (by omega) (by omega)]; omega
  unfold teamsterref_Sorts.f
  rw [wrap_u64 n (by omega), shl_one .i64 n (by omega) (.inr rfl), ← hN, if_pos (by omega), if_pos (by omega), if_pos (by omega), Int.toNat_natCast, hw1]
  rw [Option.bind_some, if_pos (by omega), Int.toNat_natCast, if_pos (by omega), if_pos (by rw [List.length_replicate]; omega), Option.bind_some]
  rw [show (0 : Int).toNat = 0 from rfl, sorts_start N h0, if_pos (by rw [List.length_replicate]; omega), List.set_set]
theorem sorts_is (g : Good n l) : ∃ row, RowI n (apartB (E l)) (2 ^ n - 1) row ∧ Ev (fun k => teamsterref_Sorts.f k (n : Int) l) row := by
  have h10 := g.n10
  have hp : 2 ^ n ≤ 2 ^ 10 := Nat.pow_le_pow_right (by decide) h10
  have h1 := Nat.two_pow_pos n
  have hT := sorts_made (apartB (E l)) (2 ^ n) rfl h1 h10
  have hF := sorts_f (l := l) h10 (2 ^ n) rfl h1 hp
  have hL := sorts_l0 g (2 ^ n - 1) 1
  generalize (List.replicate (2 ^ n) ([] : List Int)).set 0 ((List.replicate (n + 1) 0).set 0 1) = X at hT hF
  obtain ⟨row, hr, hev⟩ := hL (by omega) (by omega) X hT
  exact ⟨row, hr, Ev.congr hF hev⟩
end

end Go.Proofs.YtoblkmbmacimiaaDoor.L

namespace Go.Proofs.YtoblkmbmacimiaaDoor.L
open Go Go.RowKit Go.Proofs.YtoblkmbmacimiaaDoor.B Go.Proofs.YtoblkmbmacimiaaDoorW.PrintWords Go.Proofs.YtoblkmbmacimiaaDoorW.PrintMore Go.Proofs.YtoblkmbmacimiaaDoor.G

theorem wrap_form (a : Int) : ∃ q, wrap64 a = a + 18446744073709551616 * q := ⟨(wrap64 a - a) / 18446744073709551616, by unfold wrap64; omega⟩
theorem wrap_plus (a q : Int) : wrap64 (a + 18446744073709551616 * q) = wrap64 a := by unfold wrap64; omega
theorem wrap_mul (a b : Int) : wrap64 (wrap64 a * wrap64 b) = wrap64 (a * b) := by
  obtain ⟨p, hp⟩ := wrap_form a
  obtain ⟨q, hq⟩ := wrap_form b
  have : (a + 18446744073709551616 * p) * (b + 18446744073709551616 * q) = a * b + 18446744073709551616 * (p * b + a * q + 18446744073709551616 * (p * q)) := by
    simp only [Int.add_mul, Int.mul_add, Int.mul_assoc, Int.mul_left_comm]
    omega
  rw [hp, hq, this, wrap_plus]

/-- c (c-1) .. down, so many. -/
def fall (c : Int) : Nat → Int
  | 0 => 1
  | j + 1 => fall c j * (c - j)
theorem fall_minus (j : Nat) : fall (-1) j = alt j := by
  induction j with
  | zero => rfl
  | succ j ih =>
    rw [fall, ih, alt_succ, show (-1 - (j : Int)) = -((j : Int) + 1) by omega, Int.mul_neg, Int.mul_comm]

theorem count_l1 (c : Int) (n j : Nat) (hj : j ≤ 10) (a x5 : Int) (xs : List Int) (R : Int)
    (next : Ev (fun k => teamsterref_Count.l0 k c (wrap64 (x5 + wrap64 (a * fall c j))) xs (xs.length : Int) (wrap64 ((j : Int) + 1))) R) :
    ∀ d i, i + d = j → Ev (fun k => teamsterref_Count.l1 k c x5 (j : Int) (wrap64 (a * fall c i)) (i : Int) xs (xs.length : Int) (j : Int)) R := by
  intro d
  induction d with
  | zero =>
    intro i hi
    obtain rfl : i = j := by omega
    refine Ev.step (fun k => ?_) next
    conv => lhs; rw [teamsterref_Count.l1]
    rw [if_neg (by omega)]
  | succ d ih =>
    intro i hi
    have hw1 : wrap64 ((i : Int) + 1) = ((i + 1 : Nat) : Int) := by rw [w64 (by omega) (by omega)]; omega
    refine Ev.step (fun k => ?_) (ih (i + 1) (by omega))
    conv => lhs; rw [teamsterref_Count.l1]
    rw [if_pos (by omega), hw1, wrap_mul, fall, Int.mul_assoc]

theorem count_l0 (c : Int) (n : Nat) (h10 : n ≤ 10) (Q : Nat → Bool) (v : Nat) (row : List Int) (h : RowI n Q v row) : ∀ d j, j + d = n + 1 → ∀ x, Ev (fun k => teamsterref_Count.l0 k c (wrap64 (x + sumR j fun i => fall c i * A Q i v)) row (row.length : Int) (j : Int)) (wrap64 (x + sumR (n + 1) fun i => fall c i * A Q i v)) := by
  intro d
  induction d with
  | zero =>
    intro j hj x
    obtain rfl : j = n + 1 := by omega
    have := h.1
    refine Ev.step (g := fun _ => some _) (fun k => ?_) (.const _)
    rw [teamsterref_Count.l0, if_neg (by omega)]
  | succ d ih =>
    intro j hj x
    have hlen := h.1
    have hw1 : wrap64 ((j : Int) + 1) = ((j + 1 : Nat) : Int) := by rw [w64 (by omega) (by omega)]; omega
    have := count_l1 c n j (by omega) (A Q j v) (wrap64 (x + sumR j fun i => fall c i * A Q i v)) row _ (by
      rw [hw1, wrap_add, show x + (sumR j fun i => fall c i * A Q i v) + A Q j v * fall c j = x + sumR (j + 1) fun i => fall c i * A Q i v by
        simp only [sumR]; rw [Int.mul_comm (A Q j v)]; omega]
      exact ih (j + 1) (by omega) x) j 0 (by omega)
    refine Ev.step (fun k => ?_) this
    conv => lhs; rw [teamsterref_Count.l0]
    rw [if_pos (by omega), if_pos (by omega), if_pos (by omega), h.2 j (by omega), fall, Int.mul_one]
    rfl

theorem count_is {n : Nat} {l : List S57} (g : Good n l) (c : Int) : Ev (fun k => teamsterref_Count.f k (n : Int) l c) (wrap64 (sumR (n + 1) fun i => fall c i * A (apartB (E l)) i (2 ^ n - 1))) := by
  obtain ⟨row, hr, hev⟩ := sorts_is g
  unfold teamsterref_Count.f
  refine Ev.bind hev ?_
  have := count_l0 c n g.n10 _ _ row hr (n + 1) 0 (by omega) 0
  simp only [Int.zero_add] at this
  refine Ev.congr (fun k => ?_) this
  rw [show sumR 0 (fun i => fall c i * A (apartB (E l)) i (2 ^ n - 1)) = 0 from rfl, wrap_zero]
  rfl

end Go.Proofs.YtoblkmbmacimiaaDoor.L
