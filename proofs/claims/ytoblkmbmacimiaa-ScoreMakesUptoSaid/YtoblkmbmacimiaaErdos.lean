/- Plain: Erdos and Gallai's sums, over all sets; a step of Havel and Hakimi keeps them, both ways. -/
import Derived.Test.YtoblkmbmacimiaaSum
namespace Go.Proofs.Ytoblkmbmacimiaa.L

def cntR (n : Nat) (S : Nat → Bool) : Int := sumR n fun i => if S i = true then 1 else 0
def inS (n : Nat) (S : Nat → Bool) (d : Nat → Int) : Int := sumR n fun i => if S i = true then d i else 0
def outS (n : Nat) (S : Nat → Bool) (d : Nat → Int) (s : Int) : Int := sumR n fun i => if S i = true then 0 else min (d i) s
def Viol (n : Nat) (d : Nat → Int) (S : Nat → Bool) : Prop := cntR n S * (cntR n S - 1) + outS n S d (cntR n S) < inS n S d
def EG (n : Nat) (d : Nat → Int) : Prop := ∀ S, ¬ Viol n d S
def upd (S : Nat → Bool) (z : Nat) (b : Bool) : Nat → Bool := fun i => if i = z then b else S i

theorem cntR_nonneg (n S) : 0 ≤ cntR n S := sumR_nonneg fun i _ => by split <;> omega
theorem cnt_drop {n : Nat} {S : Nat → Bool} {z : Nat} (hz : z < n) (h : S z = true) : cntR n (upd S z false) = cntR n S - 1 := by
  have e : cntR n S = sumR n (fun i => (if upd S z false i = true then 1 else 0) + if i = z then 1 else 0) := sumR_congr fun i _ => by
    unfold upd
    by_cases e : i = z
    · subst e; simp [h]
    · simp [e]
  rw [e, sumR_add, sumR_at hz]; unfold cntR; omega
theorem cnt_swap {n : Nat} {S : Nat → Bool} {x u : Nat} (hx : x < n) (hu : u < n) (h1 : S x = true) (h2 : S u = false) : cntR n (upd (upd S x false) u true) = cntR n S := by
  have hne : u ≠ x := fun e => by rw [e, h1] at h2; cases h2
  have e : cntR n (upd (upd S x false) u true) = sumR n (fun i => (if S i = true then 1 else 0) + ((if i = u then 1 else 0) - if i = x then 1 else 0)) := sumR_congr fun i _ => by
    unfold upd
    by_cases e1 : i = u
    · subst e1; simp [h2, hne]
    · by_cases e2 : i = x
      · subst e2; simp [h1, e1]
      · simp [e1, e2]
  rw [e, sumR_add, sumR_sub, sumR_at hx, sumR_at hu]; unfold cntR; omega

/-- A step: v has t and gets none; those of T have one less. -/
structure Step (n : Nat) (d d' : Nat → Int) (v : Nat) (T : Nat → Bool) : Prop where
  hv : v < n
  zero : d' v = 0
  tv : T v = false
  cnt : cntR n T = d v
  less : ∀ i, i < n → i ≠ v → d' i = d i - if T i = true then 1 else 0
  pos : ∀ i, i < n → T i = true → 1 ≤ d i
  nonneg : ∀ i, i < n → 0 ≤ d i

theorem Step.nonneg' {n d d' v T} (h : Step n d d' v T) : ∀ i, i < n → 0 ≤ d' i := fun i hi => by
  by_cases e : i = v
  · rw [e, h.zero]; exact Int.le_refl _
  · rw [h.less i hi e]
    have := h.nonneg i hi
    have := h.pos i hi
    split
    · have := this (by assumption); omega
    · omega

theorem mul_pred (s : Int) : s * (s - 1) = s * s - s := by rw [Int.mul_sub, Int.mul_one]
theorem mul_pred2 (s : Int) : (s - 1) * (s - 1 - 1) = s * s - 3 * s + 2 := by
  rw [show s - 1 - 1 = s - 2 by omega, Int.sub_mul, Int.mul_sub]; omega

theorem step_up {n : Nat} {d d' : Nat → Int} {v : Nat} {T : Nat → Bool} (h : Step n d d' v T) (hE : EG n d') : EG n d := by
  intro S hV
  unfold Viol at hV
  have hcs := cntR_nonneg n S
  cases hSv : S v
  · have h1 := hE S
    unfold Viol at h1
    generalize hs : cntR n S = s at *
    have key := sumR_mono (n := n) (f := fun i => (if S i = true then d i else 0) - if S i = true then 0 else min (d i) s)
      (g := fun i => ((if S i = true then d' i else 0) - if S i = true then 0 else min (d' i) s) + ((if S i && T i then 1 else 0) - if i = v then min (d v) s else 0)) fun i hi => by
        have hn := h.nonneg i hi
        by_cases e : i = v
        · subst e
          simp only [hSv, h.zero]
          simp; omega
        · have hl := h.less i hi e
          cases hS : S i <;> cases hT : T i <;> simp only [hT, hl, e] <;> simp <;> omega
    rw [sumR_sub, sumR_add, sumR_sub, sumR_sub, sumR_at h.hv] at key
    have a1 : sumR n (fun i => if S i && T i then 1 else 0) ≤ s := by
      rw [← hs]; exact sumR_mono fun i _ => by cases S i <;> cases T i <;> simp
    have a2 : sumR n (fun i => if S i && T i then 1 else 0) ≤ d v := by
      rw [← h.cnt]; exact sumR_mono fun i _ => by cases S i <;> cases T i <;> simp
    unfold inS outS at *
    omega
  · have h1 := hE (upd S v false)
    unfold Viol at h1
    rw [cnt_drop h.hv hSv] at h1
    have hpos : 1 ≤ cntR n S := by
      have := sumR_le_at (n := n) (v := v) h.hv (f := fun i => if S i = true then 1 else 0) fun i _ => by split <;> omega
      simp only [hSv, if_true] at this; exact this
    generalize hs : cntR n S = s at *
    have key := sumR_mono (n := n) (f := fun i => (if S i = true then d i else 0) - if S i = true then 0 else min (d i) s)
      (g := fun i => ((if upd S v false i = true then d' i else 0) - if upd S v false i = true then 0 else min (d' i) (s - 1)) + ((2 * (if S i && T i then 1 else 0) - if T i = true then 1 else 0) + if i = v then d v else 0)) fun i hi => by
        have hn := h.nonneg i hi
        by_cases e : i = v
        · subst e
          simp only [hSv, h.zero, h.tv, upd]
          simp; omega
        · have hl := h.less i hi e
          have hp := h.pos i hi
          cases hS : S i <;> cases hT : T i <;> simp only [hS, hT, hl, e, upd] <;> simp <;> first | omega | (have := hp hT; omega)
    rw [sumR_sub, sumR_add, sumR_sub, sumR_add, sumR_sub, sumR_mul, sumR_at h.hv] at key
    have a1 : sumR n (fun i => if S i && T i then 1 else 0) ≤ s - 1 := by
      have := sumR_mono (n := n) (f := fun i => if S i && T i then 1 else 0) (g := fun i => (if S i = true then 1 else 0) - if i = v then 1 else 0) fun i _ => by
        by_cases e : i = v
        · subst e; simp [h.tv, hSv]
        · cases S i <;> cases T i <;> simp [e]
      rw [sumR_sub, sumR_at h.hv] at this
      have e2 : sumR n (fun i => if S i = true then (1 : Int) else 0) = s := hs
      omega
    have hc : sumR n (fun i => if T i = true then (1 : Int) else 0) = d v := h.cnt
    rw [mul_pred2] at h1
    rw [mul_pred] at hV
    unfold inS outS at *
    omega

/-- Nothing large is left to choose: the sums fail. -/
theorem eg_short {n : Nat} {d : Nat → Int} {v : Nat} {T : Nat → Bool} (hv : v < n) (hT : cntR n T < d v) (h0 : ∀ i, i < n → i ≠ v → T i = false → d i ≤ 0) : ¬ EG n d := by
  intro hE
  apply hE (fun i => decide (i = v))
  have hc : cntR n (fun i => decide (i = v)) = 1 := by
    unfold cntR
    refine (sumR_congr fun i _ => ?_).trans (sumR_at hv 1)
    simp
  have hi : inS n (fun i => decide (i = v)) d = d v := by
    unfold inS
    rw [← sumR_at hv (d v)]
    exact sumR_congr fun i _ => by
      by_cases e : i = v
      · subst e; simp
      · simp [e]
  unfold Viol
  rw [hc, hi]
  have : outS n (fun i => decide (i = v)) d 1 ≤ cntR n T := sumR_mono fun i hi => by
    by_cases e : i = v
    · subst e; simp; split <;> omega
    · have := h0 i hi e
      cases hTi : T i
      · simp [e]; have := this hTi; omega
      · simp [e]; omega
  omega

/-! ### The other way -/
theorem viol_drop {n : Nat} {d : Nat → Int} {S : Nat → Bool} {z : Nat} (hz : z < n) (h : S z = true) (hd : d z ≤ cntR n S - 1) (hV : Viol n d S) : Viol n d (upd S z false) := by
  unfold Viol at *
  rw [cnt_drop hz h, mul_pred2]
  rw [mul_pred] at hV
  generalize hs : cntR n S = s at *
  have k1 := sumR_mono (n := n) (f := fun i => if upd S z false i = true then 0 else min (d i) (s - 1)) (g := fun i => (if S i = true then 0 else min (d i) s) + if i = z then d z else 0) fun i hi => by
    by_cases e : i = z
    · subst e; simp [upd, h]; omega
    · simp [upd, e]; split <;> omega
  have k2 : inS n (upd S z false) d = sumR n (fun i => (if S i = true then d i else 0) - if i = z then d z else 0) := sumR_congr fun i hi => by
    by_cases e : i = z
    · subst e; simp [upd, h]
    · simp [upd, e]
  rw [sumR_add, sumR_at hz] at k1
  rw [sumR_sub, sumR_at hz] at k2
  unfold inS outS at *
  omega

theorem in_swap {n : Nat} {d : Nat → Int} {S : Nat → Bool} {x u : Nat} (hx : x < n) (hu : u < n) (h1 : S x = true) (h2 : S u = false) : inS n (upd (upd S x false) u true) d = inS n S d + d u - d x := by
  have hne : u ≠ x := fun e => by rw [e, h1] at h2; cases h2
  have e : inS n (upd (upd S x false) u true) d = sumR n (fun i => (if S i = true then d i else 0) + ((if i = u then d u else 0) - if i = x then d x else 0)) := sumR_congr fun i _ => by
    by_cases e1 : i = u
    · subst e1; simp [upd, h2, hne]
    · by_cases e2 : i = x
      · subst e2; simp [upd, h1, e1]; omega
      · simp [upd, e1, e2]
  rw [e, sumR_add, sumR_sub, sumR_at hx, sumR_at hu]; unfold inS; omega

theorem viol_swap {n : Nat} {d : Nat → Int} {S : Nat → Bool} {x u : Nat} (hx : x < n) (hu : u < n) (h1 : S x = true) (h2 : S u = false) (hd : d x ≤ d u) (hV : Viol n d S) : Viol n d (upd (upd S x false) u true) := by
  have hne : u ≠ x := fun e => by rw [e, h1] at h2; cases h2
  unfold Viol at *
  rw [cnt_swap hx hu h1 h2, in_swap hx hu h1 h2]
  generalize cntR n S = s at *
  have k1 := sumR_mono (n := n) (f := fun i => if upd (upd S x false) u true i = true then 0 else min (d i) s) (g := fun i => (if S i = true then 0 else min (d i) s) + ((if i = x then min (d x) s else 0) - if i = u then min (d u) s else 0)) fun i hi => by
    by_cases e1 : i = u
    · subst e1; simp [upd, h2, hne]; omega
    · by_cases e2 : i = x
      · subst e2; simp [upd, h1, e1]
      · simp [upd, e1, e2]
  rw [sumR_add, sumR_sub, sumR_at hx, sumR_at hu] at k1
  unfold outS at *
  omega

/-- A least counter-example. -/
theorem least_viol {n : Nat} {d : Nat → Int} (hn : ∀ i, i < n → 0 ≤ d i) (S : Nat → Bool) (hV : Viol n d S) :
    ∃ S, Viol n d S ∧ (∀ z, z < n → S z = true → cntR n S ≤ d z) ∧ ∀ x u, x < n → u < n → S x = true → S u = false → d u ≤ d x := by
  have hsum : 0 ≤ sumR n d := sumR_nonneg hn
  have le : ∀ S, inS n S d ≤ sumR n d := fun S => sumR_mono fun i hi => by have := hn i hi; split <;> omega
  have key : ∀ (m : Nat) S, (cntR n S * (sumR n d + 1) + (sumR n d - inS n S d)).toNat < m → Viol n d S → ∃ S, Viol n d S ∧ (∀ z, z < n → S z = true → cntR n S ≤ d z) ∧ ∀ x u, x < n → u < n → S x = true → S u = false → d u ≤ d x := by
    intro m
    induction m with
    | zero => intro S h _; omega
    | succ m ih =>
      intro S hm hV
      have hc := cntR_nonneg n S
      by_cases hz : ∃ z, z < n ∧ S z = true ∧ d z < cntR n S
      · obtain ⟨z, h1, h2, h3⟩ := hz
        have hV' := viol_drop h1 h2 (by omega) hV
        refine ih _ ?_ hV'
        rw [cnt_drop h1 h2]
        have k2 : inS n (upd S z false) d = inS n S d - d z := by
          have : inS n (upd S z false) d = sumR n (fun i => (if S i = true then d i else 0) - if i = z then d z else 0) := sumR_congr fun i hi => by
            by_cases e : i = z
            · subst e; simp [upd, h2]
            · simp [upd, e]
          rw [this, sumR_sub, sumR_at h1]; rfl
        rw [k2, Int.sub_mul, Int.one_mul]
        have := sumR_le_at h1 hn
        have := le S
        have := Int.mul_nonneg hc (show 0 ≤ sumR n d + 1 by omega)
        have h0 : 0 ≤ (cntR n S - 1) * (sumR n d + 1) := by
          have := hn z h1
          exact Int.mul_nonneg (by omega) (by omega)
        rw [Int.sub_mul, Int.one_mul] at h0
        omega
      · by_cases hx : ∃ x u, x < n ∧ u < n ∧ S x = true ∧ S u = false ∧ d x < d u
        · obtain ⟨x, u, h1, h2, h3, h4, h5⟩ := hx
          have hV' := viol_swap h1 h2 h3 h4 (by omega) hV
          refine ih _ ?_ hV'
          rw [cnt_swap h1 h2 h3 h4, in_swap h1 h2 h3 h4]
          have l2 := le (upd (upd S x false) u true)
          rw [in_swap h1 h2 h3 h4] at l2
          have := Int.mul_nonneg hc (show 0 ≤ sumR n d + 1 by omega)
          omega
        · refine ⟨S, hV, fun z h1 h2 => ?_, fun x u h1 h2 h3 h4 => ?_⟩
          · rcases Int.lt_or_le (d z) (cntR n S) with h | h
            · exact absurd ⟨z, h1, h2, h⟩ hz
            · exact h
          · rcases Int.lt_or_le (d x) (d u) with h | h
            · exact absurd ⟨x, u, h1, h2, h3, h4, h⟩ hx
            · exact h
  exact key _ S (Nat.lt_succ_self _) hV

theorem step_down {n : Nat} {d d' : Nat → Int} {v : Nat} {T : Nat → Bool} (h : Step n d d' v T) (hmax : ∀ i, i < n → d i ≤ d v) (htop : ∀ x y, x < n → y < n → T x = true → T y = false → y ≠ v → d y ≤ d x)
    (heven : sumR n d % 2 = 0) (hE : EG n d) : EG n d' := by
  intro S0 hV0
  have hn' := h.nonneg'
  obtain ⟨S, hV, hlow, hex⟩ := least_viol hn' S0 hV0
  unfold Viol at hV
  have hs1 : 1 ≤ cntR n S := by
    rcases Int.lt_or_le 0 (cntR n S) with hp | hp
    · omega
    · exfalso
      have hc := cntR_nonneg n S
      have h0 : cntR n S = 0 := by omega
      have hall : ∀ i, i < n → S i = false := fun i hi => by
        cases hS : S i
        · rfl
        · have := sumR_le_at (n := n) (v := i) hi (f := fun i => if S i = true then 1 else 0) fun j _ => by split <;> omega
          simp only [hS, if_true] at this
          unfold cntR at h0; omega
      have e1 : inS n S d' = 0 := sumR_zero fun i hi => by rw [if_neg (by simp [hall i hi])]
      have e2 : 0 ≤ outS n S d' (cntR n S) := sumR_nonneg fun i hi => by have := hn' i hi; split <;> omega
      rw [e1, h0] at hV
      rw [h0] at e2
      omega
  have hSv : S v = false := by
    cases hS : S v
    · rfl
    · have := hlow v h.hv hS; rw [h.zero] at this; omega
  have hcS : sumR n (fun i => if S i = true then (1 : Int) else 0) = cntR n S := rfl
  have hcT : sumR n (fun i => if T i = true then (1 : Int) else 0) = d v := h.cnt
  have hES := hE S
  have hESv := hE (upd S v true)
  unfold Viol at hES
  generalize hs : cntR n S = s at *
  generalize ht : d v = t at *
  -- how many are in both
  obtain ⟨a, ha⟩ : ∃ a, sumR n (fun i => if S i && T i then (1 : Int) else 0) = a := ⟨_, rfl⟩
  have a1 : a ≤ s := by rw [← ha, ← hcS]; exact sumR_mono fun i _ => by cases S i <;> cases T i <;> simp
  have a2 : a ≤ t := by rw [← ha, ← hcT]; exact sumR_mono fun i _ => by cases S i <;> cases T i <;> simp
  have a0 : 0 ≤ a := by rw [← ha]; exact sumR_nonneg fun i _ => by split <;> omega
  have hpS := mul_pred s
  by_cases hST : ∃ x, x < n ∧ S x = true ∧ T x = false
  · obtain ⟨x, hx, hSx, hTx⟩ := hST
    have hxv : x ≠ v := fun e => by rw [e, hSv] at hSx; cases hSx
    have hdx := h.less x hx hxv
    simp only [hTx, Bool.false_eq_true, if_false, Int.sub_zero] at hdx
    have hsx := hlow x hx hSx
    by_cases hTS : ∃ u, u < n ∧ T u = true ∧ S u = false
    · have atS : a ≤ s - 1 := by
        have := sumR_mono (n := n) (f := fun i => if S i && T i then 1 else 0) (g := fun i => (if S i = true then 1 else 0) - if i = x then 1 else 0) fun i _ => by
          by_cases e : i = x
          · subst e; simp [hTx, hSx]
          · cases S i <;> cases T i <;> simp [e]
        rw [sumR_sub, sumR_at hx, ha, hcS] at this
        exact this
      have hts : s ≤ t := by have := hmax x hx; omega
      have hin := sumR_mono (n := n) (f := fun i => if S i = true then d' i else 0) (g := fun i => t * (if S i = true then 1 else 0) - if S i && T i then 1 else 0) fun i hi => by
        cases hS : S i
        · simp
        · have hiv : i ≠ v := fun e => by rw [e, hSv] at hS; cases hS
          have := h.less i hi hiv
          have := hmax i hi
          cases hT : T i <;> simp [hT] at * <;> omega
      rw [sumR_sub, sumR_mul, hcS, ha] at hin
      by_cases hall : ∀ w, w < n → T w = true → S w = false → s ≤ d' w
      · -- all the others of T stay large
        have hout := sumR_mono (n := n) (f := fun i => s * ((if T i = true then 1 else 0) - if S i && T i then 1 else 0)) (g := fun i => if S i = true then 0 else min (d' i) s) fun i hi => by
          have := hn' i hi
          cases hS : S i <;> cases hT : T i <;> simp
          · omega
          · have := hall i hi hT hS; omega
        rw [sumR_mul, sumR_sub, hcT, ha] at hout
        unfold inS outS at hV
        have e1 : s * (t - a) = s * t - s * a := Int.mul_sub _ _ _
        have e2 : t * s = s * t := Int.mul_comm _ _
        have e3 : s * a ≤ s * (s - 1) := Int.mul_le_mul_of_nonneg_left atS (by omega)
        omega
      · -- one of them is small: then those of S besides T are all equal to s
        have hw : ∃ w, w < n ∧ T w = true ∧ S w = false ∧ d' w < s := by
          apply Classical.byContradiction
          intro hno
          apply hall
          intro w h1 h2 h3
          rcases Int.lt_or_le (d' w) s with h4 | h4
          · exact absurd ⟨w, h1, h2, h3, h4⟩ hno
          · exact h4
        obtain ⟨w, hw1, hw2, hw3, hw4⟩ := hw
        have hwv : w ≠ v := fun e => by rw [e, h.tv] at hw2; cases hw2
        have hdw := h.less w hw1 hwv
        rw [if_pos hw2] at hdw
        have others : ∀ y, y < n → S y = true → T y = false → d' y = s := fun y hy hSy hTy => by
          have hyv : y ≠ v := fun e => by rw [e, hSv] at hSy; cases hSy
          have h1 := h.less y hy hyv
          rw [if_neg (by simp [hTy])] at h1
          have h2 := htop w y hw1 hy hw2 hTy hyv
          have h3 := hlow y hy hSy
          omega
        have hin2 := sumR_mono (n := n) (f := fun i => if S i = true then d' i else 0) (g := fun i => s * (if S i = true then 1 else 0) + (t - 1 - s) * if S i && T i then 1 else 0) fun i hi => by
          cases hS : S i
          · simp
          · have hiv : i ≠ v := fun e => by rw [e, hSv] at hS; cases hS
            have h1 := h.less i hi hiv
            have h2 := hmax i hi
            cases hT : T i
            · have := others i hi hS hT
              simp; omega
            · simp [hT] at h1 ⊢; omega
        rw [sumR_add, sumR_mul, sumR_mul, hcS, ha] at hin2
        have hout := sumR_mono (n := n) (f := fun i => (s - 1) * ((if T i = true then 1 else 0) - if S i && T i then 1 else 0)) (g := fun i => if S i = true then 0 else min (d' i) s) fun i hi => by
          have := hn' i hi
          cases hS : S i <;> cases hT : T i <;> simp
          · omega
          · have hiv : i ≠ v := fun e => by rw [e, h.tv] at hT; cases hT
            have h1 := h.less i hi hiv
            rw [if_pos hT] at h1
            have h2 := htop i x hi hx hT hTx hxv
            omega
        rw [sumR_mul, sumR_sub, hcT, ha] at hout
        have e1 : (s - 1) * (t - a) = s * t - s * a - t + a := by rw [Int.sub_mul, Int.mul_sub, Int.one_mul]; omega
        have e2 : (t - 1 - s) * a = t * a - a - s * a := by rw [Int.sub_mul, Int.sub_mul, Int.one_mul]
        by_cases hcase : a ≤ s - 2
        · have e3 : t * (s - 1 - a) = s * t - t - t * a := by rw [Int.mul_sub, Int.mul_sub, Int.mul_one, Int.mul_comm t s]
          have e4 : t * 1 ≤ t * (s - 1 - a) := Int.mul_le_mul_of_nonneg_left (by omega) (by omega)
          unfold inS outS at hV
          omega
        · have ea : a = s - 1 := by omega
          subst ea
          have e3 : t * (s - 1) = s * t - t := by rw [Int.mul_sub, Int.mul_one, Int.mul_comm]
          have hs' : s = 1 := by
            unfold inS outS at hV
            omega
          subst hs'
          -- only one that is not nought, and it is one
          have hxd : d' x = 1 := others x hx hSx hTx
          have hone : inS n S d' = 1 := by
            have : inS n S d' = sumR n fun i => if i = x then 1 else 0 := sumR_congr fun i hi => by
              by_cases e : i = x
              · subst e; simp [hSx, hxd]
              · have hSi : S i = false := by
                  cases hS : S i
                  · rfl
                  · exfalso
                    have := sumR_mono (n := n) (f := fun j => (if j = x then 1 else 0) + if j = i then 1 else 0) (g := fun j => if S j = true then 1 else 0) fun j hj => by
                      by_cases e1 : j = x
                      · subst e1; rw [if_pos rfl, if_neg (fun hh => e hh.symm), if_pos hSx]; omega
                      · by_cases e2 : j = i
                        · subst e2; rw [if_neg e1, if_pos rfl, if_pos hS]; omega
                        · rw [if_neg e1, if_neg e2]; split <;> omega
                    rw [sumR_add, sumR_at hx, sumR_at hi, hcS] at this
                    omega
                simp [hSi, e]
            rw [this, sumR_at hx]
          have hzero : sumR n d' ≤ inS n S d' + outS n S d' 1 + outS n S d' 1 * 0 := by
            have : ∀ i, i < n → d' i ≤ (if S i = true then d' i else 0) + (if S i = true then 0 else d' i) := fun i _ => by split <;> omega
            have hz : ∀ i, i < n → S i = false → d' i = 0 := fun i hi hS => by
              have hle := sumR_le_at (n := n) (v := i) hi (f := fun i => if S i = true then 0 else min (d' i) 1) fun j hj => by have := hn' j hj; split <;> omega
              rw [if_neg (by simp [hS])] at hle
              have := hn' i hi
              rw [hone] at hV
              unfold outS at hV
              omega
            rw [Int.mul_zero, Int.add_zero]
            unfold inS outS
            rw [← sumR_add]
            refine sumR_mono fun i hi => ?_
            cases hS : S i
            · simp [hz i hi hS]; omega
            · simp
          have hge : inS n S d' ≤ sumR n d' := sumR_mono fun i hi => by have := hn' i hi; split <;> omega
          have hout0 : outS n S d' 1 ≤ 0 := by rw [hone] at hV; omega
          have htot : sumR n d' = 1 := by omega
          have hsumd : sumR n d = sumR n d' + t + t := by
            have : sumR n d = sumR n (fun i => d' i + ((if T i = true then 1 else 0) + if i = v then t else 0)) := sumR_congr fun i hi => by
              by_cases e : i = v
              · subst e; simp [h.zero, h.tv, ht]
              · have := h.less i hi e
                rw [if_neg e]; omega
            rw [this, sumR_add, sumR_add, hcT, sumR_at h.hv]; omega
          omega
    · -- T lies in S
      have hTall : ∀ u, u < n → S u = false → T u = false := fun u hu hS => by
        cases hT : T u
        · rfl
        · exact absurd ⟨u, hu, hT, hS⟩ hTS
      have ea : a = t := by
        rw [← ha, ← hcT]
        exact sumR_congr fun i hi => by
          cases hS : S i
          · simp [hTall i hi hS]
          · cases T i <;> simp
      have key := sumR_mono (n := n) (f := fun i => ((if S i = true then d' i else 0) - if S i = true then 0 else min (d' i) s) + ((if S i && T i then 1 else 0) - if i = v then t else 0)) (g := fun i => (if S i = true then d i else 0) - if S i = true then 0 else min (d i) s) fun i hi => by
        by_cases e : i = v
        · subst e; simp [hSv, h.zero, h.tv, ht]; omega
        · have h1 := h.less i hi e
          cases hS : S i
          · have hT := hTall i hi hS
            rw [hT] at h1; simp at h1
            simp [hT, e, h1]
          · cases hT : T i <;> rw [hT] at h1 <;> simp at h1 <;> simp [e, h1]
      rw [sumR_add, sumR_sub, sumR_sub, sumR_sub, sumR_at h.hv, ha] at key
      unfold inS outS at *
      omega
  · -- S lies in T
    have hSall : ∀ u, u < n → S u = true → T u = true := fun u hu hS => by
      cases hT : T u
      · exact absurd ⟨u, hu, hS, hT⟩ hST
      · rfl
    have ea : a = s := by
      rw [← ha, ← hcS]
      exact sumR_congr fun i hi => by
        cases hS : S i
        · simp
        · simp [hSall i hi hS]
    by_cases hbig : ∃ u, u < n ∧ S u = false ∧ T u = false ∧ u ≠ v ∧ s < d u
    · obtain ⟨u, hu, hSu, hTu, huv, hdu⟩ := hbig
      have key := sumR_mono (n := n) (f := fun i => ((if S i = true then d' i else 0) - if S i = true then 0 else min (d' i) s) + ((if S i = true then 1 else 0) - if i = v then s else 0)) (g := fun i => (if S i = true then d i else 0) - if S i = true then 0 else min (d i) s) fun i hi => by
        by_cases e : i = v
        · subst e; simp [hSv, h.zero, ht]; omega
        · have h1 := h.less i hi e
          cases hS : S i
          · cases hT : T i
            · rw [hT] at h1; simp at h1
              simp [e, h1]
            · rw [hT] at h1; simp at h1
              have := htop i u hi hu hT hTu huv
              simp [e, h1]; omega
          · have hT := hSall i hi hS
            rw [hT] at h1; simp at h1
            simp [e, h1]
      rw [sumR_add, sumR_sub, sumR_sub, sumR_sub, sumR_at h.hv, hcS] at key
      unfold inS outS at *
      omega
    · have hsmall : ∀ u, u < n → S u = false → T u = false → u ≠ v → d u ≤ s := fun u h1 h2 h3 h4 => by
        rcases Int.lt_or_le s (d u) with h5 | h5
        · exact absurd ⟨u, h1, h2, h3, h4, h5⟩ hbig
        · exact h5
      have hcu : cntR n (upd S v true) = s + 1 := by
        have : cntR n (upd S v true) = sumR n (fun i => (if S i = true then 1 else 0) + if i = v then 1 else 0) := sumR_congr fun i _ => by
          by_cases e : i = v
          · subst e; simp [upd, hSv]
          · simp [upd, e]
        rw [this, sumR_add, sumR_at h.hv, hcS]
      unfold Viol at hESv
      rw [hcu] at hESv
      have key := sumR_mono (n := n) (f := fun i => ((if S i = true then d' i else 0) - if S i = true then 0 else min (d' i) s) + ((2 * (if S i && T i then 1 else 0) - if T i = true then 1 else 0) + if i = v then t else 0)) (g := fun i => (if upd S v true i = true then d i else 0) - if upd S v true i = true then 0 else min (d i) (s + 1)) fun i hi => by
        by_cases e : i = v
        · subst e; simp [hSv, h.zero, h.tv, ht, upd]; omega
        · have h1 := h.less i hi e
          have h2 := h.nonneg i hi
          cases hS : S i
          · cases hT : T i
            · rw [hT] at h1; simp at h1
              have := hsmall i hi hS hT e
              simp [e, h1, upd, hS]; omega
            · rw [hT] at h1; simp at h1
              simp [e, h1, upd, hS]; omega
          · have hT := hSall i hi hS
            rw [hT] at h1; simp at h1
            simp [e, h1, upd, hS]; omega
      rw [sumR_add, sumR_sub, sumR_sub, sumR_add, sumR_sub, sumR_mul, sumR_at h.hv, ha, hcT] at key
      have e1 : (s + 1) * (s + 1 - 1) = s * s + s := by rw [show s + 1 - 1 = s by omega, Int.add_mul, Int.one_mul]
      rw [e1] at hESv
      unfold inS outS at *
      omega

end Go.Proofs.Ytoblkmbmacimiaa.L
