/- Plain: colourings counted colour by colour: what the reference's sum comes to. Plain: colourings counted colour by colour, each colour with a test of its own, are those counted node by node. Plain: which of some colours a node may have, as a word: its members. Plain: the colourings counted node by node, by how many colours are in use, are those that are counted colour by colour. -/
import Derived.Test.YtoblkmbmacimiaaDoorCount
import Derived.Test.YtoblkmbmacimiaaDoorTurns
import Derived.Test.YtoblkmbmacimiaaDoorNear

namespace Go.Proofs.YtoblkmbmacimiaaDoor.L

/-- In how many ways a set is coloured by so many colours, each colour's set let by: colour by colour. -/
def col (Q : Nat → Bool) : Nat → Nat → Int
  | 0, w => if w = 0 then 1 else 0
  | k + 1, w => sumR (w + 1) fun s => if Sub s w ∧ Q s = true then col Q k (w ^^^ s) else 0

theorem fall_zero_pos (j : Nat) : fall 0 (j + 1) = 0 := by
  induction j with
  | zero => rfl
  | succ j ih => rw [fall, ih, Int.zero_mul]
theorem fall_succ (k : Int) (j : Nat) : fall (k + 1) (j + 1) = fall k (j + 1) + ((j : Int) + 1) * fall k j := by
  induction j with
  | zero => simp [fall]
  | succ j ih =>
    rw [show fall (k + 1) (j + 1 + 1) = fall (k + 1) (j + 1) * (k + 1 - ((j + 1 : Nat) : Int)) from rfl, ih, show fall k (j + 1 + 1) = fall k (j + 1) * (k - ((j + 1 : Nat) : Int)) from rfl, show fall k (j + 1) = fall k j * (k - (j : Int)) from rfl]
    have e : (k + 1 - ((j + 1 : Nat) : Int)) = k - j := by omega
    rw [e]
    generalize fall k j = f
    have e2 : k - ((j + 1 : Nat) : Int) = (k - j) - 1 := by omega
    have e3 : (((j + 1 : Nat) : Int) + 1) = (j : Int) + 1 + 1 := by omega
    rw [e2, e3]
    generalize k - (j : Int) = d
    generalize (j : Int) + 1 = m
    simp only [Int.add_mul, Int.mul_sub, Int.mul_assoc, Int.mul_one, Int.one_mul]
    have h1 : m * (f * d) = f * d * m := by rw [Int.mul_comm]
    have h2 : m * (f * d) = m * f * d := by rw [Int.mul_assoc]
    have h3 : f * (d * d) = f * d * d := by rw [Int.mul_assoc]
    omega

theorem count_col (Q : Nat → Bool) (hQ0 : Q 0 = true) (K : Nat) (k : Nat) : ∀ (w : Nat), w < 2 ^ K → ∀ M, bcK K w ≤ M → sumR (M + 1) (fun j => fall (k : Int) j * A Q j w) = col Q k w := by
  induction k with
  | zero =>
    intro w hw M hM
    rw [sumR_first, sumR_zero fun j _ => by rw [show ((0 : Nat) : Int) = 0 from rfl, fall_zero_pos, Int.zero_mul]]
    simp only [fall, Int.one_mul, Int.add_zero, A, col]
  | succ k ih =>
    intro w hw M hM
    by_cases h0 : w = 0
    · subst h0
      rw [sumR_first, sumR_zero fun j _ => by rw [A_zero, Int.mul_zero]]
      have := ih 0 hw M hM
      rw [sumR_first, sumR_zero fun j _ => by rw [A_zero, Int.mul_zero]] at this
      simp only [col, sumR, sub_zero, hQ0]
      simp only [fall] at this ⊢
      simpa using this
    · have hp := bcK_pos K h0 hw
      obtain ⟨M, rfl⟩ : ∃ m, M = m + 1 := ⟨M - 1, by omega⟩
      rw [sumR_first, show A Q 0 w = 0 by rw [A, if_neg h0], Int.mul_zero, Int.zero_add]
      have e1 : ∀ j, j < M + 1 → fall ((k + 1 : Nat) : Int) (j + 1) * A Q (j + 1) w = fall (k : Int) (j + 1) * A Q (j + 1) w + sumR (w + 1) fun s => if Sub s w ∧ s ≠ 0 ∧ Q s = true then fall (k : Int) j * A Q j (w ^^^ s) else 0 := fun j _ => by
        have h := T_eq Q j w
        unfold T at h
        rw [Int.natCast_succ, fall_succ, Int.add_mul]
        congr 1
        rw [Int.mul_comm ((j : Int) + 1), Int.mul_assoc, ← h, ← sumR_mul]
        exact sumR_congr fun s _ => by split <;> simp
      rw [sumR_congr e1, sumR_add, sumR_swap]
      have ihw := ih w hw (M + 1) hM
      rw [sumR_first, show A Q 0 w = 0 by rw [A, if_neg h0], Int.mul_zero, Int.zero_add] at ihw
      rw [ihw]
      have e2 : ∀ s, s < w + 1 → (sumR (M + 1) fun j => if Sub s w ∧ s ≠ 0 ∧ Q s = true then fall (k : Int) j * A Q j (w ^^^ s) else 0) = if Sub s w ∧ s ≠ 0 ∧ Q s = true then col Q k (w ^^^ s) else 0 := fun s hs => by
        rw [sumR_if]
        by_cases h : Sub s w ∧ s ≠ 0 ∧ Q s = true
        · rw [if_pos h, if_pos h]
          have h1 := bcK_add K h.1
          have h2 := bcK_pos K h.2.1 (by omega)
          have h3 := diff_lt h.1 h.2.1
          exact ih _ (by omega) M (by omega)
        · rw [if_neg h, if_neg h]
      have r1 : col Q (k + 1) w = col Q k w + sumR w fun i => if Sub (i + 1) w ∧ Q (i + 1) = true then col Q k (w ^^^ (i + 1)) else 0 := by
        rw [col, sumR_first, if_pos ⟨sub_zero w, hQ0⟩, Nat.xor_zero]
      have r2 : (sumR (w + 1) fun s => if Sub s w ∧ s ≠ 0 ∧ Q s = true then col Q k (w ^^^ s) else 0) = sumR w fun i => if Sub (i + 1) w ∧ Q (i + 1) = true then col Q k (w ^^^ (i + 1)) else 0 := by
        rw [sumR_first, if_neg (by simp), Int.zero_add]
        refine sumR_congr fun i _ => ?_
        by_cases h : Sub (i + 1) w ∧ Q (i + 1) = true
        · rw [if_pos h, if_pos ⟨h.1, by omega, h.2⟩]
        · rw [if_neg h, if_neg fun hh => h ⟨hh.1, hh.2.2⟩]
      rw [sumR_congr e2, r1, r2]

end Go.Proofs.YtoblkmbmacimiaaDoor.L

namespace Go.Proofs.YtoblkmbmacimiaaDoor.L

/-- Colour by colour, each with its own test; over words of K bits. -/
def cols (K : Nat) : List (Nat → Bool) → Nat → Int
  | [], w => if w = 0 then 1 else 0
  | Q :: Qs, w => sumR (2 ^ K) fun s => if Sub s w ∧ Q s = true then cols K Qs (w ^^^ s) else 0
/-- The test of a colour that has a node already. -/
def with_ (v : Nat) (Q : Nat → Bool) : Nat → Bool := fun s => Q (s ^^^ 2 ^ v)
/-- The first node goes to one of the colours. -/
def byNode (K v : Nat) : List (Nat → Bool) → Nat → Int
  | [], _ => 0
  | Q :: Qs, w => cols K (with_ v Q :: Qs) (w ^^^ 2 ^ v) + sumR (2 ^ K) fun s => if Sub s (w ^^^ 2 ^ v) ∧ Q s = true then byNode K v Qs (w ^^^ s) else 0

theorem col_cols (Q : Nat → Bool) (K k : Nat) : ∀ w, w < 2 ^ K → col Q k w = cols K (List.replicate k Q) w := by
  induction k with
  | zero => intro w _; rfl
  | succ k ih =>
    intro w hw
    rw [col, List.replicate_succ, cols, ← sub_sum (N := 2 ^ K) hw]
    refine sumR_congr fun s hs => ?_
    by_cases h : Sub s w ∧ Q s = true
    · rw [if_pos h, if_pos h, ih _ (Nat.xor_lt_two_pow hw hs)]
    · rw [if_neg h, if_neg h]

theorem bit_sub {v w : Nat} (h : w.testBit v = true) : Sub (2 ^ v) w := sub_iff.2 fun i hi => by
  rw [Nat.testBit_two_pow] at hi
  have : v = i := by simpa using hi
  rw [← this]; exact h

/-- The node's colour. -/
theorem cols_node (K v : Nat) (hv : v < K) (Qs : List (Nat → Bool)) : ∀ w, w < 2 ^ K → w.testBit v = true → cols K Qs w = byNode K v Qs w := by
  induction Qs with
  | nil =>
    intro w _ hb
    have : w ≠ 0 := by rintro rfl; simp at hb
    rw [cols, if_neg this, byNode]
  | cons Q Qs ih =>
    intro w hw hb
    have hv2 : 2 ^ v < 2 ^ K := Nat.pow_lt_pow_right (by decide) hv
    have hs2 := bit_sub hb
    rw [cols, byNode, cols]
    -- with the node, and without
    have e1 : ∀ s, s < 2 ^ K → (if Sub s w ∧ Q s = true then cols K Qs (w ^^^ s) else 0) = (if (Sub s w ∧ s.testBit v = true) ∧ Q s = true then cols K Qs (w ^^^ s) else 0) + (if Sub s (w ^^^ 2 ^ v) ∧ Q s = true then cols K Qs (w ^^^ s) else 0) := fun s _ => by
      have hd : Sub s (w ^^^ 2 ^ v) ↔ Sub s w ∧ s.testBit v = false := by
        rw [sub_diff hs2]
        refine and_congr Iff.rfl ⟨fun h => ?_, fun h i hi => ?_⟩
        · cases hsv : s.testBit v
          · rfl
          · have := h v hsv; rw [Nat.testBit_two_pow] at this; simp at this
        · rw [Nat.testBit_two_pow]
          have : v ≠ i := fun e => by rw [e, hi] at h; cases h
          simpa using this
      by_cases h : Sub s w ∧ Q s = true
      · cases hsv : s.testBit v
        · rw [if_pos h, if_neg (by simp), if_pos ⟨hd.2 ⟨h.1, hsv⟩, h.2⟩]; omega
        · rw [if_pos h, if_pos ⟨⟨h.1, rfl⟩, h.2⟩, if_neg fun hh => by have := (hd.1 hh.1).2; rw [hsv] at this; cases this]; omega
      · rw [if_neg h, if_neg fun hh => h ⟨hh.1.1, hh.2⟩, if_neg fun hh => h ⟨(hd.1 hh.1).1, hh.2⟩]; rfl
    rw [sumR_congr e1, sumR_add]
    congr 1
    · rw [← sumR_flip K v hv]
      refine sumR_congr fun s hs => ?_
      have hc : (Sub (s ^^^ 2 ^ v) w ∧ (s ^^^ 2 ^ v).testBit v = true) ↔ Sub s (w ^^^ 2 ^ v) := by
        rw [flip_sub hb, sub_diff hs2]
        refine and_congr Iff.rfl ⟨fun h i hi => ?_, fun h => ?_⟩
        · rw [Nat.testBit_two_pow]
          have : v ≠ i := fun e => by subst e; rw [Nat.testBit_xor, Nat.testBit_two_pow, hi] at h; simp at h
          simpa using this
        · cases hsv : s.testBit v
          · rw [Nat.testBit_xor, Nat.testBit_two_pow, hsv]; simp
          · have := h v hsv; rw [Nat.testBit_two_pow] at this; simp at this
      have hx : w ^^^ (s ^^^ 2 ^ v) = w ^^^ 2 ^ v ^^^ s := by rw [Nat.xor_comm s, ← Nat.xor_assoc]
      by_cases h : Sub s (w ^^^ 2 ^ v) ∧ with_ v Q s = true
      · rw [if_pos h, if_pos ⟨hc.2 h.1, h.2⟩, hx]
      · rw [if_neg h, if_neg fun hh => h ⟨hc.1 hh.1, hh.2⟩]
    · refine sumR_congr fun s hs => ?_
      by_cases h : Sub s (w ^^^ 2 ^ v) ∧ Q s = true
      · rw [if_pos h, if_pos h]
        refine ih _ (Nat.xor_lt_two_pow hw hs) ?_
        rw [Nat.testBit_xor, hb]
        cases hsv : s.testBit v
        · rfl
        · have := sub_iff.1 h.1 v hsv
          rw [diff_bit hs2, Nat.testBit_two_pow] at this; simp at this
      · rw [if_neg h, if_neg h]

/-- The same as a sum over the colours. -/
theorem byNode_sum (K v : Nat) (Q0 : Nat → Bool) (Qs : List (Nat → Bool)) : ∀ w, byNode K v Qs w = sumR Qs.length fun c => cols K (Qs.set c (with_ v (Qs.getD c Q0))) (w ^^^ 2 ^ v) := by
  induction Qs with
  | nil => intro w; rfl
  | cons Q Qs ih =>
    intro w
    rw [byNode, List.length_cons, sumR_first]
    congr 1
    have e1 : ∀ s, s < 2 ^ K → (if Sub s (w ^^^ 2 ^ v) ∧ Q s = true then byNode K v Qs (w ^^^ s) else 0) = sumR Qs.length fun c => if Sub s (w ^^^ 2 ^ v) ∧ Q s = true then cols K (Qs.set c (with_ v (Qs.getD c Q0))) (w ^^^ 2 ^ v ^^^ s) else 0 := fun s _ => by
      rw [sumR_if]
      by_cases h : Sub s (w ^^^ 2 ^ v) ∧ Q s = true
      · rw [if_pos h, if_pos h, ih]
        exact sumR_congr fun c _ => by rw [show w ^^^ s ^^^ 2 ^ v = w ^^^ 2 ^ v ^^^ s by rw [Nat.xor_assoc, Nat.xor_comm s, ← Nat.xor_assoc]]
      · rw [if_neg h, if_neg h]
    rw [sumR_congr e1, sumR_swap]
    exact sumR_congr fun c _ => rfl

/-- The order of the colours does not matter. -/
theorem cols_perm (K : Nat) {Qs Qs' : List (Nat → Bool)} (h : Qs.Perm Qs') : ∀ w, cols K Qs w = cols K Qs' w := by
  induction h with
  | nil => intro w; rfl
  | cons Q _ ih => intro w; simp only [cols, ih]
  | trans _ _ h1 h2 => intro w; rw [h1, h2]
  | swap Q Q' Qs =>
    intro w
    have e : ∀ (P P' : Nat → Bool), cols K (P :: P' :: Qs) w = sumR (2 ^ K) fun s => sumR (2 ^ K) fun t => if (Sub s w ∧ Sub t (w ^^^ s)) ∧ P s = true ∧ P' t = true then cols K Qs (w ^^^ s ^^^ t) else 0 := fun P P' => by
      rw [cols]
      refine sumR_congr fun s _ => ?_
      by_cases h : Sub s w ∧ P s = true
      · rw [if_pos h, cols]
        refine sumR_congr fun t _ => ?_
        by_cases h2 : Sub t (w ^^^ s) ∧ P' t = true
        · rw [if_pos h2, if_pos ⟨⟨h.1, h2.1⟩, h.2, h2.2⟩]
        · rw [if_neg h2, if_neg fun hh => h2 ⟨hh.1.2, hh.2.2⟩]
      · rw [if_neg h]
        exact (sumR_zero fun t _ => if_neg fun hh => h ⟨hh.1.1, hh.2.1⟩).symm
    rw [e, e, sumR_swap]
    refine sumR_congr fun t _ => sumR_congr fun s _ => ?_
    have hx : w ^^^ s ^^^ t = w ^^^ t ^^^ s := by rw [Nat.xor_assoc, Nat.xor_comm s, ← Nat.xor_assoc]
    by_cases h : (Sub s w ∧ Sub t (w ^^^ s)) ∧ Q' s = true ∧ Q t = true
    · rw [if_pos h, if_pos ⟨sub_swap.1 h.1, h.2.2, h.2.1⟩, hx]
    · rw [if_neg h, if_neg fun hh => h ⟨sub_swap.1 hh.1, hh.2.2, hh.2.1⟩]

end Go.Proofs.YtoblkmbmacimiaaDoor.L

namespace Go.Proofs.YtoblkmbmacimiaaDoor.L
open Go Go.RowKit Go.Proofs.YtoblkmbmacimiaaDoor.B Go.Proofs.YtoblkmbmacimiaaDoorW.PrintWords Go.Proofs.YtoblkmbmacimiaaDoorW.PrintMore Go.Proofs.YtoblkmbmacimiaaDoor.G

/-- One neighbour's colour is struck. -/
def strike (l : List Int) (w : Int) (j : Nat) : Int := if 0 ≤ rd l j then bits .andNot .u32 w (shl .u32 1 (rd l j)) else w
def mayW (l : List Int) (u : Nat) (w : Int) : Int := (bitsOf u).foldl (strike l) w

theorem andNot_u32' (a b : Nat) (ha : a < 4294967296) (hb : b < 4294967296) : ∃ x : Nat, bits .andNot .u32 (a : Int) (b : Int) = (x : Int) ∧ x < 4294967296 ∧ ∀ i, x.testBit i = (a.testBit i && !b.testBit i) := by
  have hx : a ^^^ (a &&& b) < 2 ^ 32 := Nat.xor_lt_two_pow (by omega) (Nat.and_lt_two_pow _ (by omega))
  refine ⟨a ^^^ (a &&& b), ?_, by omega, fun i => ?_⟩
  · show IntKind.u32.wrap ((BitVec.ofInt 32 (a : Int) &&& ~~~ BitVec.ofInt 32 (b : Int)).toNat : Int) = _
    have e : (BitVec.ofInt 32 (a : Int) &&& ~~~ BitVec.ofInt 32 (b : Int)) = BitVec.ofNat 32 (a ^^^ (a &&& b)) := by
      rw [BitVec.ofInt_natCast, BitVec.ofInt_natCast]
      apply BitVec.eq_of_getLsbD_eq
      intro i hi
      simp only [BitVec.getLsbD_and, BitVec.getLsbD_not, BitVec.getLsbD_ofNat, hi, decide_true, Bool.true_and, Nat.testBit_xor, Nat.testBit_and]
      cases a.testBit i <;> cases b.testBit i <;> rfl
    rw [e, BitVec.toNat_ofNat, Nat.mod_eq_of_lt (by omega), B.wrap_u32']
    omega
  · rw [Nat.testBit_xor, Nat.testBit_and]
    cases a.testBit i <;> cases b.testBit i <;> rfl

theorem strike_is (l : List Int) (w j : Nat) (hw : w < 4294967296) (h : rd l j < 31) : ∃ x : Nat, strike l (w : Int) j = (x : Int) ∧ x < 4294967296 ∧ ∀ c, x.testBit c = (w.testBit c && decide (rd l j ≠ c)) := by
  unfold strike
  by_cases h0 : 0 ≤ rd l j
  · rw [if_pos h0]
    obtain ⟨c, hc⟩ := Int.eq_ofNat_of_zero_le h0
    rw [hc, shl_one .u32 c (by omega) (.inl rfl)]
    have hp : 2 ^ c ≤ 2 ^ 30 := Nat.pow_le_pow_right (by decide) (by omega)
    obtain ⟨x, h1, h2, h3⟩ := andNot_u32' w (2 ^ c) hw (by omega)
    refine ⟨x, h1, h2, fun i => ?_⟩
    rw [h3, Nat.testBit_two_pow]
    congr 1
    by_cases e : c = i
    · simp [e]
    · have e2 : ¬ ((c : Int) = (i : Int)) := by omega
      simp [e, e2]
  · rw [if_neg h0]
    refine ⟨w, rfl, hw, fun c => ?_⟩
    have : decide (rd l (j : Int) ≠ (c : Int)) = true := decide_eq_true (by omega)
    rw [this, Bool.and_true]

theorem foldl_strike (l : List Int) : ∀ (js : List Nat), (∀ j ∈ js, rd l (j : Int) < 31) → ∀ w : Nat, w < 4294967296 → ∃ x : Nat, js.foldl (strike l) (w : Int) = (x : Int) ∧ x < 4294967296 ∧ ∀ c, x.testBit c = true ↔ w.testBit c = true ∧ ∀ j ∈ js, rd l (j : Int) ≠ (c : Int) := by
  intro js
  induction js with
  | nil => intro _ w hw; exact ⟨w, rfl, hw, fun c => by simp⟩
  | cons j js ih =>
    intro h w hw
    obtain ⟨y, h1, h2, h3⟩ := strike_is l w j hw (h j List.mem_cons_self)
    obtain ⟨x, k1, k2, k3⟩ := ih (fun i hi => h i (List.mem_cons_of_mem _ hi)) y h2
    refine ⟨x, by rw [List.foldl_cons, h1, k1], k2, fun c => ?_⟩
    rw [k3, h3, Bool.and_eq_true, decide_eq_true_eq]
    simp only [List.mem_cons, forall_eq_or_imp]
    constructor
    · rintro ⟨⟨a, b⟩, c⟩; exact ⟨a, b, c⟩
    · rintro ⟨a, b, c⟩; exact ⟨⟨a, b⟩, c⟩

/-- The members of the word. -/
theorem mayW_is (l : List Int) (u m : Nat) (hm : m < 31) (h : ∀ j ∈ bitsOf u, rd l (j : Int) < 31) : ∃ x : Nat, mayW l u ((2 ^ m - 1) % 4294967296) = (x : Int) ∧ x < 2 ^ m ∧ ∀ c, x.testBit c = true ↔ c < m ∧ ∀ j ∈ bitsOf u, rd l (j : Int) ≠ (c : Int) := by
  have hp : 2 ^ m ≤ 2 ^ 30 := Nat.pow_le_pow_right (by decide) (by omega)
  have hpos := Nat.two_pow_pos m
  have e : ((2 : Int) ^ m - 1) % 4294967296 = ((2 ^ m - 1 : Nat) : Int) := by
    have : ((2 : Int) ^ m) = ((2 ^ m : Nat) : Int) := by simp
    rw [this]; omega
  obtain ⟨x, h1, h2, h3⟩ := foldl_strike l (bitsOf u) h (2 ^ m - 1) (by omega)
  have h4 : ∀ c, x.testBit c = true ↔ c < m ∧ ∀ j ∈ bitsOf u, rd l (j : Int) ≠ (c : Int) := fun c => by
    rw [h3, Nat.testBit_two_pow_sub_one, decide_eq_true_eq]
  refine ⟨x, by unfold mayW; rw [e, h1], Nat.lt_pow_two_of_testBit _ fun i hi => ?_, h4⟩
  cases hb : x.testBit i
  · rfl
  · exact absurd ((h4 i).1 hb).1 (by omega)

end Go.Proofs.YtoblkmbmacimiaaDoor.L

namespace Go.Proofs.YtoblkmbmacimiaaDoor.L
open Go Go.RowKit Go.Proofs.YtoblkmbmacimiaaDoor.B Go.Proofs.YtoblkmbmacimiaaDoorW.PrintWords Go.Proofs.YtoblkmbmacimiaaDoorW.PrintMore Go.Proofs.YtoblkmbmacimiaaDoor.G

def sumL (js : List Nat) (f : Nat → Int) : Int := js.foldl (fun s j => s + f j) 0
theorem foldl_sum (f : Nat → Int) : ∀ (js : List Nat) (a : Int), js.foldl (fun s j => s + f j) a = a + sumL js f := by
  intro js
  induction js with
  | nil => intro a; simp [sumL]
  | cons j js ih => intro a; rw [List.foldl_cons, ih]; unfold sumL; rw [List.foldl_cons, ih (0 + f j)]; unfold sumL; omega
theorem sumL_cons (j : Nat) (js : List Nat) (f : Nat → Int) : sumL (j :: js) f = f j + sumL js f := by
  show (j :: js).foldl _ _ = _
  rw [List.foldl_cons, foldl_sum]; omega
theorem sumL_nil (f : Nat → Int) : sumL [] f = 0 := rfl

/-- Node by node; so many are left. -/
def cnt (nb : List Int) (k : Nat) : Nat → List Int → Nat → Nat → Int
  | 0, _, _, _ => 1
  | d + 1, l, i, used => sumL (bitsOf (mayW l (rd nb i).toNat ((2 ^ (min (used + 1) k) - 1) % 4294967296)).toNat) fun c =>
      if c = used then ((k : Int) - used) * cnt nb k d (l.set i (c : Int)) (i + 1) (used + 1) else cnt nb k d (l.set i (c : Int)) (i + 1) used

theorem sumR_one (m a : Nat) (ha : a < m) (f : Nat → Int) : sumR m (fun c => if c = a then f c else 0) = f a := by
  induction m with
  | zero => omega
  | succ m ih =>
    rw [sumR]
    by_cases e : a = m
    · subst e
      rw [if_pos rfl, sumR_zero fun i hi => if_neg (by omega)]; omega
    · rw [ih (by omega), if_neg (fun h => e h.symm)]; omega

theorem sum_bits (m : Nat) (hm : m ≤ 32) (f : Nat → Int) : ∀ x, x < 2 ^ m → sumL (bitsOf x) f = sumR m fun c => if x.testBit c = true then f c else 0 := by
  intro x
  induction x using Nat.strongRecOn with
  | _ x ih =>
    intro hx
    have hp : 2 ^ m ≤ 2 ^ 32 := Nat.pow_le_pow_right (by decide) hm
    by_cases h : x = 0
    · subst h
      rw [bitsOf_zero, sumL_nil, sumR_zero fun i _ => by simp]
    · have hb := ctz_bit h (by omega)
      have hlt := lt_of_bit hx hb
      rw [bitsOf_cons h, sumL_cons, ih _ (nxt_lt h) (Nat.lt_trans (nxt_lt h) hx), ← sumR_one m _ hlt f, ← sumR_add]
      refine sumR_congr fun c hc => ?_
      rw [nxt_bit h (by omega)]
      by_cases e : c = Lib.ctz 32 x
      · subst e; simp [hb]
      · simp [e]

/-- The nodes of a colour among the first ones. -/
def cls (l : List Int) : Nat → Nat → Nat
  | 0, _ => 0
  | i + 1, c => if rd l i = c then cls l i c ^^^ 2 ^ i else cls l i c
theorem cls_bit (l : List Int) (c : Nat) : ∀ i j, (cls l i c).testBit j = true ↔ j < i ∧ rd l j = c := by
  intro i
  induction i with
  | zero => intro j; simp [cls]
  | succ i ih =>
    intro j
    rw [cls]
    by_cases h : rd l i = c
    · rw [if_pos h, Nat.testBit_xor, Nat.testBit_two_pow]
      by_cases e : i = j
      · subst e
        have : (cls l i c).testBit i = false := by
          cases hb : (cls l i c).testBit i
          · rfl
          · exact absurd ((ih i).1 hb).1 (by omega)
        rw [this]; simp [h]
      · have : decide (i = j) = false := decide_eq_false e
        rw [this, Bool.xor_false, ih]
        constructor
        · rintro ⟨a, b⟩; exact ⟨by omega, b⟩
        · rintro ⟨a, b⟩; exact ⟨by omega, b⟩
    · rw [if_neg h, ih]
      constructor
      · rintro ⟨a, b⟩; exact ⟨by omega, b⟩
      · rintro ⟨a, b⟩
        refine ⟨?_, b⟩
        rcases Nat.lt_or_ge j i with h1 | h1
        · exact h1
        · have : j = i := by omega
          subst this; exact absurd b h
theorem cls_congr {l l' : List Int} {i : Nat} (h : ∀ j, j < i → rd l (j : Int) = rd l' (j : Int)) (c : Nat) : cls l i c = cls l' i c := by
  apply Nat.eq_of_testBit_eq
  intro j
  rw [Bool.eq_iff_iff, cls_bit, cls_bit]
  exact and_congr_right fun hj => by rw [h j hj]

def tests (Q : Nat → Bool) (l : List Int) (i k : Nat) : List (Nat → Bool) := (List.range k).map fun c s => Q (s ^^^ cls l i c)
theorem tests_len (Q : Nat → Bool) (l : List Int) (i k : Nat) : (tests Q l i k).length = k := by simp [tests]
theorem tests_get (Q : Nat → Bool) (l : List Int) (i k c : Nat) (hc : c < k) (Q0 : Nat → Bool) : (tests Q l i k).getD c Q0 = fun s => Q (s ^^^ cls l i c) := by
  simp [tests, List.getD_eq_getElem?_getD, hc]

theorem tests_set (Q : Nat → Bool) (l : List Int) (i k c : Nat) (hi : i < l.length) (hc : c < k) (Q0 : Nat → Bool) :
    (tests Q l i k).set c (with_ i ((tests Q l i k).getD c Q0)) = tests Q (l.set i (c : Int)) (i + 1) k := by
  refine List.ext_getElem (by rw [List.length_set, tests_len, tests_len]) fun j h1 h2 => ?_
  rw [tests_len] at h2
  have e1 : ∀ c', cls (l.set i (c : Int)) i c' = cls l i c' := fun c' => cls_congr (fun j hj => by rw [rd_set _ _ _ _ hi, if_neg (by omega)]) c'
  rw [List.getElem_set]
  by_cases e : c = j
  · subst e
    rw [if_pos rfl, tests_get _ _ _ _ _ hc]
    simp only [tests, List.getElem_map, List.getElem_range, cls, e1]
    rw [rd_set _ _ _ _ hi, if_pos rfl, if_pos rfl]
    funext s
    unfold with_
    show Q (s ^^^ 2 ^ i ^^^ cls l i c) = _
    rw [Nat.xor_assoc, Nat.xor_comm (2 ^ i)]
  · rw [if_neg e]
    simp only [tests, List.getElem_map, List.getElem_range, cls, e1]
    rw [rd_set _ _ _ _ hi, if_pos rfl, if_neg (by omega)]

theorem cols_none (K : Nat) (Q : Nat → Bool) (Qs : List (Nat → Bool)) (h : Q ∈ Qs) : ∀ w, (∀ s, Sub s w → Q s = false) → cols K Qs w = 0 := by
  induction Qs with
  | nil => cases h
  | cons P Qs ih =>
    intro w hw
    rw [cols]
    refine sumR_zero fun s _ => ?_
    rcases List.mem_cons.1 h with rfl | h
    · exact if_neg fun hh => by rw [hw s hh.1] at hh; cases hh.2
    · by_cases hs : Sub s w ∧ P s = true
      · rw [if_pos hs]
        exact ih h _ fun t ht => hw t (ht.trans (diff_sub hs.1))
      · rw [if_neg hs]

theorem set_perm {α : Type} (x q : α) : ∀ (l : List α) (a b : Nat), l[a]? = some q → l[b]? = some q → (l.set a x).Perm (l.set b x) := by
  have key : ∀ (l : List α) (b : Nat), l[b]? = some q → (x :: l).Perm (q :: l.set b x) := by
    intro l
    induction l with
    | nil => intro b h; simp at h
    | cons y l ih =>
      intro b h
      cases b with
      | zero =>
        have : y = q := by simpa using h
        subst this
        exact List.Perm.swap _ _ _
      | succ b =>
        rw [List.set_cons_succ]
        refine (List.Perm.swap _ _ _).trans ?_
        refine ((ih b (by simpa using h)).cons y).trans ?_
        exact List.Perm.swap _ _ _
  intro l
  induction l with
  | nil => intro a b h; simp at h
  | cons y l ih =>
    intro a b ha hb
    cases a with
    | zero =>
      have hy : y = q := by simpa using ha
      subst hy
      cases b with
      | zero => exact List.Perm.refl _
      | succ b => rw [List.set_cons_zero, List.set_cons_succ]; exact key l b (by simpa using hb)
    | succ a =>
      cases b with
      | zero =>
        have hy : y = q := by simpa using hb
        subst hy
        rw [List.set_cons_zero, List.set_cons_succ]; exact (key l a (by simpa using ha)).symm
      | succ b => rw [List.set_cons_succ, List.set_cons_succ]; exact (ih a b (by simpa using ha) (by simpa using hb)).cons _

def rem (i n : Nat) : Nat := 2 ^ n - 2 ^ i
theorem rem_bit (i n : Nat) (h : i ≤ n) (j : Nat) : (rem i n).testBit j = (decide (i ≤ j) && decide (j < n)) := by
  have hp := Nat.two_pow_pos i
  have hle : 2 ^ i ≤ 2 ^ n := Nat.pow_le_pow_right (by decide) h
  have e : rem i n = 2 ^ i * (2 ^ (n - i) - 1) := by
    unfold rem
    rw [Nat.mul_sub, Nat.mul_one, ← Nat.pow_add, Nat.add_sub_cancel' h]
  rw [e, Nat.testBit_two_pow_mul, Nat.testBit_two_pow_sub_one]
  by_cases h1 : i ≤ j
  · simp [h1]; omega
  · simp [h1]
theorem rem_lt (i n : Nat) : rem i n < 2 ^ n := by have := Nat.two_pow_pos i; have := Nat.two_pow_pos n; unfold rem; omega
theorem rem_step (i n : Nat) (h : i < n) : rem i n ^^^ 2 ^ i = rem (i + 1) n := by
  apply Nat.eq_of_testBit_eq
  intro j
  rw [Nat.testBit_xor, rem_bit _ _ (by omega), rem_bit _ _ (by omega), Nat.testBit_two_pow]
  by_cases e : i = j
  · subst e; simp [h]
  · by_cases h1 : i ≤ j
    · have : i + 1 ≤ j := by omega
      simp [e, h1, this]
    · have : ¬ i + 1 ≤ j := by omega
      simp [e, h1, this]
theorem rem_self (n : Nat) : rem n n = 0 := by unfold rem; omega

theorem cols_zero (K : Nat) (Qs : List (Nat → Bool)) (h : ∀ Q ∈ Qs, Q 0 = true) : cols K Qs 0 = 1 := by
  induction Qs with
  | nil => rfl
  | cons Q Qs ih =>
    rw [cols, ← sumR_one (2 ^ K) 0 (Nat.two_pow_pos K) fun _ => 1]
    refine sumR_congr fun s _ => ?_
    by_cases e : s = 0
    · subst e
      rw [if_pos ⟨sub_zero 0, h Q List.mem_cons_self⟩, if_pos rfl, Nat.xor_zero]
      exact ih fun P hP => h P (List.mem_cons_of_mem _ hP)
    · rw [if_neg e, if_neg]
      rintro ⟨hs, _⟩
      exact e (by have := hs.le; omega)

/-- What has been coloured by now. -/
structure Col (n : Nat) (es : List (Nat × Nat)) (k : Nat) (l : List Int) (i used : Nat) : Prop where
  len : l.length = n
  le : i ≤ n
  uk : used ≤ k
  has : ∀ j, j < i → ∃ c : Nat, c < used ∧ rd l (j : Int) = (c : Int)
  not : ∀ j, i ≤ j → j < n → rd l (j : Int) = -1
  ok : ∀ c, apartB es (cls l i c) = true

theorem Col.step {n k i used c : Nat} {l : List S57} {xs : List Int} (g : Good n l) (h : Col n (E l) k xs i used) (hi : i < n) (hc : c ≤ used) (hck : c < k) (hfree : ∀ j, nbr (E l) i j → rd xs (j : Int) ≠ (c : Int)) :
    Col n (E l) k (xs.set i (c : Int)) (i + 1) (if c = used then used + 1 else used) := by
  have hlen := h.len
  refine ⟨by rw [List.length_set, h.len], hi, ?_, fun j hj => ?_, fun j h1 h2 => ?_, fun c' => ?_⟩
  · have := h.uk; split <;> omega
  · rw [rd_set _ _ _ _ (by omega)]
    by_cases e : i = j
    · rw [if_pos e]; exact ⟨c, by split <;> omega, rfl⟩
    · rw [if_neg e]
      obtain ⟨c', h1, h2⟩ := h.has j (by omega)
      exact ⟨c', by split <;> omega, h2⟩
  · rw [rd_set _ _ _ _ (by omega), if_neg (by omega)]; exact h.not j (by omega) h2
  · have e1 : cls (xs.set i (c : Int)) i c' = cls xs i c' := cls_congr (fun j hj => by rw [rd_set _ _ _ _ (by omega), if_neg (by omega)]) c'
    rw [cls, e1, rd_set _ _ _ _ (by omega), if_pos rfl]
    by_cases e : (c : Int) = c'
    · have e : c = c' := by omega
      subst e
      rw [if_pos rfl]
      have ho := h.ok c
      rw [apartB_iff] at ho ⊢
      rintro e he ⟨h1, h2⟩
      have hm : ∀ j, (cls xs i c ^^^ 2 ^ i).testBit j = true → j = i ∨ (cls xs i c).testBit j = true := fun j hj => by
        rw [Nat.testBit_xor, Nat.testBit_two_pow] at hj
        by_cases e : i = j
        · exact .inl e.symm
        · rw [decide_eq_false e, Bool.xor_false] at hj; exact .inr hj
      have hne : e.1 ≠ e.2 := by
        unfold E at he
        obtain ⟨f, hf, rfl⟩ := List.mem_map.1 he
        have := g.ends f hf
        simp only; omega
      rcases hm _ h1 with a1 | a1 <;> rcases hm _ h2 with a2 | a2
      · omega
      · exact hfree _ ⟨e, he, .inl ⟨a1, rfl⟩⟩ ((cls_bit _ _ _ _).1 a2).2
      · exact hfree _ ⟨e, he, .inr ⟨rfl, a2⟩⟩ ((cls_bit _ _ _ _).1 a1).2
      · exact ho e he ⟨a1, a2⟩
    · rw [if_neg e]; exact h.ok c'

theorem cls_unused {n k i used c : Nat} {es : List (Nat × Nat)} {xs : List Int} (h : Col n es k xs i used) (hc : used ≤ c) : cls xs i c = 0 := by
  apply Nat.eq_of_testBit_eq
  intro j
  rw [Nat.zero_testBit]
  cases hb : (cls xs i c).testBit j
  · rfl
  · obtain ⟨h1, h2⟩ := (cls_bit _ _ _ _).1 hb
    obtain ⟨c', h3, h4⟩ := h.has j h1
    omega

theorem near_bits {n : Nat} {l : List S57} {nb : List Int} (hn : NearI n l nb) {i : Nat} (hi : i < n) : ∃ x : Nat, rd nb (i : Int) = x ∧ x < 4294967296 ∧ ∀ j, j ∈ bitsOf x ↔ nbr (E l) i j := by
  obtain ⟨x, h1, h2, h3⟩ := hn.2 i hi
  exact ⟨x, h1, h2, fun j => by rw [mem_bitsOf x h2, h3]⟩
theorem nbr_lt {n : Nat} {l : List S57} (g : Good n l) {i j : Nat} (h : nbr (E l) i j) : j < n := by
  obtain ⟨e, he, hc⟩ := h
  unfold E at he
  obtain ⟨f, hf, rfl⟩ := List.mem_map.1 he
  have := g.ends f hf
  simp only at hc; omega
theorem Col.lt {n k i used : Nat} {es : List (Nat × Nat)} {xs : List Int} (h : Col n es k xs i used) (j : Nat) (hj : j < n) : rd xs (j : Int) < used ∧ -1 ≤ rd xs (j : Int) := by
  by_cases hji : j < i
  · obtain ⟨c, h1, h2⟩ := h.has j hji; omega
  · have := h.not j (by omega) hj; omega

theorem cnt_is {n k : Nat} {l : List S57} (g : Good n l) {nb : List Int} (hn : NearI n l nb) (hk : k ≤ 12) :
    ∀ d i used xs, i + d = n → Col n (E l) k xs i used → cnt nb k d xs i used = cols n (tests (apartB (E l)) xs i k) (rem i n) := by
  intro d
  induction d with
  | zero =>
    intro i used xs hi h
    obtain rfl : i = n := by omega
    rw [cnt, rem_self, cols_zero]
    intro Q hQ
    unfold tests at hQ
    obtain ⟨c, _, rfl⟩ := List.mem_map.1 hQ
    show apartB (E l) (0 ^^^ cls xs i c) = true
    rw [Nat.zero_xor]; exact h.ok c
  | succ d ih =>
    intro i used xs hi h
    have hlen := h.len
    have huk := h.uk
    have hin : i < n := by omega
    obtain ⟨u, hu, hu32, hub⟩ := near_bits hn hin
    obtain ⟨x, hx, hxl, hxb⟩ := mayW_is xs u (min (used + 1) k) (by omega) (fun j hj => by have := (h.lt j (nbr_lt g ((hub j).1 hj))).1; omega)
    -- the node's colour
    rw [cols_node n i hin _ _ (rem_lt i n) (by rw [rem_bit _ _ (by omega)]; simp [hin]), byNode_sum n i (fun _ => false), rem_step i n hin, tests_len]
    have hset : ∀ c, c < k → cols n ((tests (apartB (E l)) xs i k).set c (with_ i ((tests (apartB (E l)) xs i k).getD c fun _ => false))) (rem (i + 1) n) = cols n (tests (apartB (E l)) (xs.set i (c : Int)) (i + 1) k) (rem (i + 1) n) := fun c hc => by rw [tests_set _ _ _ _ _ (by omega) hc]
    -- a colour that may not be
    have hno : ∀ c, c < k → (¬ ∀ j, nbr (E l) i j → rd xs (j : Int) ≠ (c : Int)) → cols n (tests (apartB (E l)) (xs.set i (c : Int)) (i + 1) k) (rem (i + 1) n) = 0 := fun c hc hf => by
      have hf : ∃ j, nbr (E l) i j ∧ rd xs (j : Int) = c := Classical.byContradiction fun hh => hf fun j hj e => hh ⟨j, hj, e⟩
      obtain ⟨j, hj, hjc⟩ := hf
      refine cols_none n (fun s => apartB (E l) (s ^^^ cls (xs.set i (c : Int)) (i + 1) c)) _ (List.mem_map.2 ⟨c, List.mem_range.2 hc, rfl⟩) _ fun s hs => ?_
      have hji : j < i := by
        rcases Nat.lt_or_ge j i with h1 | h1
        · exact h1
        · have := h.not j h1 (nbr_lt g hj); omega
      have hb : ∀ v, v < i + 1 → rd (xs.set i (c : Int)) (v : Int) = c → (s ^^^ cls (xs.set i (c : Int)) (i + 1) c).testBit v = true := fun v hv he => by
        have h1 : s.testBit v = false := by
          cases hsv : s.testBit v
          · rfl
          · have := sub_iff.1 hs v hsv
            rw [rem_bit _ _ (by omega)] at this
            simp at this; omega
        rw [Nat.testBit_xor, h1, (cls_bit _ _ _ _).2 ⟨hv, he⟩]; rfl
      have hi1 := hb i (by omega) (by rw [rd_set _ _ _ _ (by omega), if_pos rfl])
      have hj1 := hb j (by omega) (by rw [rd_set _ _ _ _ (by omega), if_neg (by omega)]; exact hjc)
      refine Bool.eq_false_iff.2 fun ha => ?_
      rw [apartB_iff] at ha
      obtain ⟨e, he, hc⟩ := hj
      rcases hc with ⟨rfl, rfl⟩ | ⟨rfl, rfl⟩
      · exact ha e he ⟨hi1, hj1⟩
      · exact ha e he ⟨hj1, hi1⟩
    -- those that are not in use are alike
    have halike : ∀ c, used ≤ c → c < k → cols n (tests (apartB (E l)) (xs.set i (c : Int)) (i + 1) k) (rem (i + 1) n) = cols n (tests (apartB (E l)) (xs.set i (used : Int)) (i + 1) k) (rem (i + 1) n) := fun c h1 h2 => by
      rw [← tests_set _ _ _ _ _ (by omega) h2 (fun _ => false), ← tests_set _ _ _ _ _ (by omega) (show used < k by omega) (fun _ => false)]
      rw [tests_get _ _ _ _ _ h2, tests_get _ _ _ _ _ (show used < k by omega), cls_unused h h1, cls_unused h (Nat.le_refl _)]
      refine cols_perm n (set_perm _ (fun s => apartB (E l) (s ^^^ 0)) _ _ _ ?_ ?_) _
      · simp only [tests, List.getElem?_map, List.getElem?_range h2, Option.map_some, cls_unused h h1]
      · simp only [tests, List.getElem?_map, List.getElem?_range (show used < k by omega), Option.map_some, cls_unused h (Nat.le_refl _)]
    rw [sumR_congr hset, cnt, hu, Int.toNat_natCast, hx, Int.toNat_natCast, sum_bits (min (used + 1) k) (by omega) _ x hxl]
    have hfr : ∀ c, (∀ j ∈ bitsOf u, rd xs (j : Int) ≠ (c : Int)) ↔ ∀ j, nbr (E l) i j → rd xs (j : Int) ≠ (c : Int) := fun c => forall_congr' fun j => by rw [hub]
    have hterm : ∀ c, c < used → (if x.testBit c = true then (if c = used then ((k : Int) - used) * cnt nb k d (xs.set i (c : Int)) (i + 1) (used + 1) else cnt nb k d (xs.set i (c : Int)) (i + 1) used) else 0) = cols n (tests (apartB (E l)) (xs.set i (c : Int)) (i + 1) k) (rem (i + 1) n) := fun c hc => by
      by_cases hf : ∀ j, nbr (E l) i j → rd xs (j : Int) ≠ (c : Int)
      · rw [if_pos ((hxb c).2 ⟨by omega, (hfr c).2 hf⟩), if_neg (by omega)]
        have := h.step g hin (by omega) (by omega) hf
        rw [if_neg (by omega)] at this
        exact ih (i + 1) used _ (by omega) this
      · rw [if_neg fun hb => hf ((hfr c).1 ((hxb c).1 hb).2), hno c (by omega) hf]
    by_cases hlt : used < k
    · have hff : ∀ j, nbr (E l) i j → rd xs (j : Int) ≠ (used : Int) := fun j hj => by have := (h.lt j (nbr_lt g hj)).1; omega
      rw [Nat.min_eq_left (by omega), sumR, if_pos ((hxb used).2 ⟨by omega, (hfr used).2 hff⟩), if_pos rfl, sumR_congr hterm]
      obtain ⟨m, rfl⟩ : ∃ m, k = used + m := ⟨k - used, by omega⟩
      rw [sumR_shift]
      congr 1
      have hst := h.step g hin (Nat.le_refl _) hlt hff
      rw [if_pos rfl] at hst
      rw [ih (i + 1) (used + 1) _ (by omega) hst, sumR_congr fun c hc => halike (used + c) (by omega) (by omega)]
      generalize cols n (tests (apartB (E l)) (xs.set i (used : Int)) (i + 1) (used + m)) (rem (i + 1) n) = C
      have e : ∀ m, sumR m (fun _ => C) = (m : Int) * C := fun m => by
        induction m with
        | zero => simp [sumR]
        | succ m ih => rw [sumR, ih, Int.natCast_succ, Int.add_mul, Int.one_mul]
      rw [e]
      congr 1; omega
    · obtain rfl : used = k := by omega
      rw [Nat.min_eq_right (by omega), sumR_congr hterm]

end Go.Proofs.YtoblkmbmacimiaaDoor.L
