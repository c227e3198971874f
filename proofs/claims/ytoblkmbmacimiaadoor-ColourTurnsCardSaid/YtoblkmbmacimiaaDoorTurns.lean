/- Plain: in how many ways the edges inside a set may be turned so that nothing comes round; the recursion by signs that this number keeps. -/
import Derived.Test.YtoblkmbmacimiaaDoorColour
namespace Go.Proofs.YtoblkmbmacimiaaDoor.L
open Classical

/-- No arc comes to v from within t. -/
def Src (D : List (Nat × Nat)) (t v : Nat) : Prop := ∀ d ∈ D, d.2 = v → t.testBit d.1 = false
def Acyc (D : List (Nat × Nat)) (w : Nat) : Prop := ∀ t, Sub t w → t ≠ 0 → ∃ v, t.testBit v = true ∧ Src D t v
def AllSrc (D : List (Nat × Nat)) (w s : Nat) : Prop := ∀ v, s.testBit v = true → Src D w v

noncomputable def turns : List (Nat × Nat) → List (Nat × Nat) → Nat → Int
  | [], D, w => if Acyc D w then 1 else 0
  | e :: es, D, w => if w.testBit e.1 = true ∧ w.testBit e.2 = true then turns es (e :: D) w + turns es ((e.2, e.1) :: D) w else turns es D w

/-- The same, and the members of s are all sources. -/
noncomputable def turnsS : List (Nat × Nat) → List (Nat × Nat) → Nat → Nat → Int
  | [], D, w, s => if AllSrc D w s ∧ Acyc D w then 1 else 0
  | e :: es, D, w, s => if w.testBit e.1 = true ∧ w.testBit e.2 = true then turnsS es (e :: D) w s + turnsS es ((e.2, e.1) :: D) w s else turnsS es D w s

/-- No two members have an edge. -/
def Apart (es : List (Nat × Nat)) (s : Nat) : Prop := ∀ e ∈ es, ¬ (s.testBit e.1 = true ∧ s.testBit e.2 = true)

theorem turns_nonneg (es D w) : 0 ≤ turns es D w := by
  induction es generalizing D with
  | nil => unfold turns; split <;> omega
  | cons e es ih => unfold turns; split; · have := ih (e :: D); have := ih ((e.2, e.1) :: D); omega
                    · exact ih D
theorem turns_le (es D w) : turns es D w ≤ 2 ^ es.length := by
  induction es generalizing D with
  | nil => unfold turns; split <;> simp
  | cons e es ih =>
    have h2 : (2 : Int) ^ (e :: es).length = 2 ^ es.length + 2 ^ es.length := by rw [List.length_cons, Int.pow_succ]; omega
    have h0 := turns_nonneg es D w
    have := ih D
    unfold turns; split
    · have := ih (e :: D); have := ih ((e.2, e.1) :: D); omega
    · omega
theorem turns_zero (es : List (Nat × Nat)) : turns es [] 0 = 1 := by
  have h : ∀ D : List (Nat × Nat), turns es D 0 = 1 := by
    induction es with
    | nil => intro D; unfold turns; rw [if_pos]; intro t ht h0; exact absurd (Nat.le_zero.1 ht.le) h0
    | cons e es ih => intro D; unfold turns; rw [if_neg (by simp)]; exact ih D
  exact h []

theorem acyc_congr {D D' : List (Nat × Nat)} {w : Nat} (h : ∀ d, w.testBit d.1 = true → w.testBit d.2 = true → (d ∈ D ↔ d ∈ D')) : Acyc D w ↔ Acyc D' w := by
  have key : ∀ {D D' : List (Nat × Nat)}, (∀ d, w.testBit d.1 = true → w.testBit d.2 = true → (d ∈ D ↔ d ∈ D')) → Acyc D w → Acyc D' w := by
    intro D D' h hA t ht h0
    obtain ⟨v, hv, hs⟩ := hA t ht h0
    refine ⟨v, hv, fun d hd e => ?_⟩
    cases hb : t.testBit d.1
    · rfl
    · rw [← hs d ((h d (sub_iff.1 ht _ hb) (by rw [e]; exact sub_iff.1 ht _ hv)).2 hd) e, hb]
  exact ⟨key h, key fun d h1 h2 => (h d h1 h2).symm⟩
theorem turns_congr (es : List (Nat × Nat)) {D D' : List (Nat × Nat)} {w : Nat} (h : ∀ d, w.testBit d.1 = true → w.testBit d.2 = true → (d ∈ D ↔ d ∈ D')) : turns es D w = turns es D' w := by
  induction es generalizing D D' with
  | nil =>
    unfold turns
    by_cases hA : Acyc D w
    · rw [if_pos hA, if_pos ((acyc_congr h).1 hA)]
    · rw [if_neg hA, if_neg fun hh => hA ((acyc_congr h).2 hh)]
  | cons e es ih =>
    unfold turns
    rw [ih h, ih (D := e :: D) (D' := e :: D') fun d h1 h2 => by simp only [List.mem_cons, h d h1 h2], ih (D := (e.2, e.1) :: D) (D' := (e.2, e.1) :: D') fun d h1 h2 => by simp only [List.mem_cons, h d h1 h2]]

theorem turnsS_none (es : List (Nat × Nat)) {D : List (Nat × Nat)} {w s : Nat} (h : ∃ d ∈ D, w.testBit d.1 = true ∧ s.testBit d.2 = true) : turnsS es D w s = 0 := by
  induction es generalizing D with
  | nil =>
    obtain ⟨d, hd, h1, h2⟩ := h
    unfold turnsS
    rw [if_neg]
    rintro ⟨hA, _⟩
    have := hA _ h2 d hd rfl
    rw [h1] at this; cases this
  | cons e es ih =>
    obtain ⟨d, hd, h1⟩ := h
    unfold turnsS
    rw [ih ⟨d, List.mem_cons_of_mem _ hd, h1⟩, ih ⟨d, List.mem_cons_of_mem _ hd, h1⟩, ih ⟨d, hd, h1⟩]
    simp

theorem acyc_rest {D : List (Nat × Nat)} {w s : Nat} (hs : Sub s w) (hA : AllSrc D w s) : Acyc D w ↔ Acyc D (w ^^^ s) := by
  constructor
  · exact fun h t ht h0 => h t (ht.trans (diff_sub hs)) h0
  · intro h t ht h0
    by_cases hx : ∃ v, t.testBit v = true ∧ s.testBit v = true
    · obtain ⟨v, h1, h2⟩ := hx
      refine ⟨v, h1, fun d hd e => ?_⟩
      have := hA v h2 d hd e
      cases hb : t.testBit d.1
      · rfl
      · rw [sub_iff.1 ht _ hb] at this; cases this
    · refine h t ((sub_diff hs).2 ⟨ht, fun i hi => ?_⟩) h0
      cases hb : s.testBit i
      · rfl
      · exact absurd ⟨i, hi, hb⟩ hx

theorem turnsS_is (es : List (Nat × Nat)) {D : List (Nat × Nat)} {w s : Nat} (hs : Sub s w) (hD : AllSrc D w s) : turnsS es D w s = if Apart es s then turns es D (w ^^^ s) else 0 := by
  induction es generalizing D with
  | nil =>
    rw [if_pos (by intro e he; cases he)]
    unfold turnsS turns
    by_cases hA : Acyc D w
    · rw [if_pos ⟨hD, hA⟩, if_pos ((acyc_rest hs hD).1 hA)]
    · rw [if_neg fun hh => hA hh.2, if_neg fun hh => hA ((acyc_rest hs hD).2 hh)]
  | cons e es ih =>
    have hap : Apart (e :: es) s ↔ ¬ (s.testBit e.1 = true ∧ s.testBit e.2 = true) ∧ Apart es s := by simp [Apart]
    unfold turnsS
    by_cases hw : w.testBit e.1 = true ∧ w.testBit e.2 = true
    · rw [if_pos hw]
      cases h1 : s.testBit e.1
      · cases h2 : s.testBit e.2
        · have hd1 : AllSrc (e :: D) w s := fun v hv d hd => by
            rcases List.mem_cons.1 hd with rfl | hd
            · rintro rfl; rw [h2] at hv; cases hv
            · exact hD v hv d hd
          have hd2 : AllSrc ((e.2, e.1) :: D) w s := fun v hv d hd => by
            rcases List.mem_cons.1 hd with rfl | hd
            · rintro rfl; rw [h1] at hv; cases hv
            · exact hD v hv d hd
          rw [ih hd1, ih hd2]
          by_cases ha : Apart es s
          · rw [if_pos ha, if_pos ha, if_pos (hap.2 ⟨by simp [h1], ha⟩)]
            rw [turns, if_pos (by rw [diff_bit hs, diff_bit hs, hw.1, hw.2, h1, h2]; simp)]
          · rw [if_neg ha, if_neg ha, if_neg fun hh => ha (hap.1 hh).2]; rfl
        · have hd2 : AllSrc ((e.2, e.1) :: D) w s := fun v hv d hd => by
            rcases List.mem_cons.1 hd with rfl | hd
            · rintro rfl; rw [h1] at hv; cases hv
            · exact hD v hv d hd
          rw [turnsS_none es ⟨e, List.mem_cons_self, hw.1, h2⟩, ih hd2]
          by_cases ha : Apart es s
          · rw [if_pos ha, if_pos (hap.2 ⟨by simp [h1], ha⟩), Int.zero_add]
            rw [turns, if_neg (by rw [diff_bit hs, diff_bit hs, h2]; simp)]
            refine turns_congr es fun d k1 k2 => ?_
            rw [List.mem_cons]
            refine ⟨fun h => h.resolve_left ?_, .inr⟩
            rintro rfl
            rw [diff_bit hs, h2] at k1; simp at k1
          · rw [if_neg ha, if_neg fun hh => ha (hap.1 hh).2]; rfl
      · cases h2 : s.testBit e.2
        · have hd1 : AllSrc (e :: D) w s := fun v hv d hd => by
            rcases List.mem_cons.1 hd with rfl | hd
            · rintro rfl; rw [h2] at hv; cases hv
            · exact hD v hv d hd
          rw [turnsS_none es (D := (e.2, e.1) :: D) ⟨_, List.mem_cons_self, hw.2, h1⟩, ih hd1]
          by_cases ha : Apart es s
          · rw [if_pos ha, if_pos (hap.2 ⟨by simp [h2], ha⟩), Int.add_zero]
            rw [turns, if_neg (by rw [diff_bit hs, diff_bit hs, h1]; simp)]
            refine turns_congr es fun d k1 k2 => ?_
            rw [List.mem_cons]
            refine ⟨fun h => h.resolve_left ?_, .inr⟩
            rintro rfl
            rw [diff_bit hs, h1] at k1; simp at k1
          · rw [if_neg ha, if_neg fun hh => ha (hap.1 hh).2]; rfl
        · rw [turnsS_none es ⟨e, List.mem_cons_self, hw.1, h2⟩, turnsS_none es (D := (e.2, e.1) :: D) ⟨_, List.mem_cons_self, hw.2, h1⟩, if_neg fun hh => (hap.1 hh).1 ⟨h1, h2⟩]; rfl
    · rw [if_neg hw, ih hD]
      by_cases ha : Apart es s
      · rw [if_pos ha, if_pos (hap.2 ⟨fun hh => hw ⟨sub_iff.1 hs _ hh.1, sub_iff.1 hs _ hh.2⟩, ha⟩)]
        rw [turns, if_neg fun hh => hw ⟨sub_iff.1 (diff_sub hs) _ hh.1, sub_iff.1 (diff_sub hs) _ hh.2⟩]
      · rw [if_neg ha, if_neg fun hh => ha (hap.1 hh).2]

theorem flip_sub {v w s : Nat} (hv : w.testBit v = true) : Sub (s ^^^ 2 ^ v) w ↔ Sub s w := by
  have key : ∀ {s : Nat}, Sub s w → Sub (s ^^^ 2 ^ v) w := fun {s} h => sub_iff.2 fun i hi => by
    rw [Nat.testBit_xor, Nat.testBit_two_pow] at hi
    by_cases e : v = i
    · rw [← e]; exact hv
    · rw [show decide (v = i) = false by simpa using e, Bool.xor_false] at hi
      exact sub_iff.1 h i hi
  refine ⟨fun h => ?_, key⟩
  have := key h
  rwa [Nat.xor_assoc, Nat.xor_self, Nat.xor_zero] at this

theorem turnsS_sum (K : Nat) (es : List (Nat × Nat)) {D : List (Nat × Nat)} {w : Nat} (h0 : w ≠ 0) (hw : w < 2 ^ K) :
    sumR (2 ^ K) (fun s => if Sub s w then sgn K s * turnsS es D w s else 0) = 0 := by
  induction es generalizing D with
  | nil =>
    by_cases hA : Acyc D w
    · obtain ⟨v, hv, hs⟩ := hA w (sub_refl w) h0
      have hvK : v < K := by
        rcases Nat.lt_or_ge v K with h | h
        · exact h
        · rw [Nat.testBit_lt_two_pow (Nat.lt_of_lt_of_le hw (Nat.pow_le_pow_right (by decide) h))] at hv; cases hv
      have all : ∀ s, AllSrc D w (s ^^^ 2 ^ v) ↔ AllSrc D w s := fun s => by
        have key : ∀ {s : Nat}, AllSrc D w s → AllSrc D w (s ^^^ 2 ^ v) := fun {s} h i hi => by
          rw [Nat.testBit_xor, Nat.testBit_two_pow] at hi
          by_cases e : v = i
          · rw [← e]; exact hs
          · rw [show decide (v = i) = false by simpa using e, Bool.xor_false] at hi
            exact h i hi
        refine ⟨fun h => ?_, key⟩
        have := key h
        rwa [Nat.xor_assoc, Nat.xor_self, Nat.xor_zero] at this
      have h1 := sumR_flip K v hvK fun s => if Sub s w then sgn K s * turnsS [] D w s else 0
      have h2 : ∀ s, s < 2 ^ K → (if Sub (s ^^^ 2 ^ v) w then sgn K (s ^^^ 2 ^ v) * turnsS [] D w (s ^^^ 2 ^ v) else 0) = - (if Sub s w then sgn K s * turnsS [] D w s else 0) := fun s _ => by
        have ht : turnsS [] D w (s ^^^ 2 ^ v) = turnsS [] D w s := by
          unfold turnsS
          by_cases hh : AllSrc D w s
          · rw [if_pos ⟨(all s).2 hh, hA⟩, if_pos ⟨hh, hA⟩]
          · rw [if_neg fun k => hh ((all s).1 k.1), if_neg fun k => hh k.1]
        by_cases hb : Sub s w
        · rw [if_pos hb, if_pos ((flip_sub hv).2 hb), ht, sgn_flip K v s hvK, Int.neg_mul]
        · rw [if_neg hb, if_neg fun k => hb ((flip_sub hv).1 k)]; rfl
      rw [sumR_congr h2, sumR_neg] at h1
      omega
    · refine sumR_zero fun s _ => ?_
      unfold turnsS
      split
      · rw [if_neg fun hh => hA hh.2, Int.mul_zero]
      · rfl
  | cons e es ih =>
    by_cases hb : w.testBit e.1 = true ∧ w.testBit e.2 = true
    · have : ∀ s, s < 2 ^ K → (if Sub s w then sgn K s * turnsS (e :: es) D w s else 0) = (if Sub s w then sgn K s * turnsS es (e :: D) w s else 0) + (if Sub s w then sgn K s * turnsS es ((e.2, e.1) :: D) w s else 0) := fun s _ => by
        rw [turnsS, if_pos hb]
        split
        · rw [Int.mul_add]
        · rfl
      rw [sumR_congr this, sumR_add, ih, ih]; rfl
    · have : ∀ s, s < 2 ^ K → (if Sub s w then sgn K s * turnsS (e :: es) D w s else 0) = (if Sub s w then sgn K s * turnsS es D w s else 0) := fun s _ => by
        rw [turnsS, if_neg hb]
      rw [sumR_congr this, ih]

/-- The recursion by signs. -/
theorem turns_step (K : Nat) (es : List (Nat × Nat)) (Q : Nat → Bool) (hQ : ∀ s, Q s = true ↔ Apart es s) (w : Nat) (h0 : w ≠ 0) (hw : w < 2 ^ K) :
    turns es [] w = - sumR (w + 1) fun s => if Sub s w ∧ s ≠ 0 ∧ Q s = true then sgn K s * turns es [] (w ^^^ s) else 0 := by
  have h1 := turnsS_sum K es (D := []) h0 hw
  have hd : ∀ s, AllSrc [] w s := fun s v _ d hd => by cases hd
  have h2 : ∀ s, s < 2 ^ K → (if Sub s w then sgn K s * turnsS es [] w s else 0) = if Sub s w ∧ Q s = true then sgn K s * turns es [] (w ^^^ s) else 0 := fun s _ => by
    by_cases hs : Sub s w
    · rw [if_pos hs, turnsS_is es hs (hd s)]
      by_cases ha : Apart es s
      · rw [if_pos ha, if_pos ⟨hs, (hQ s).2 ha⟩]
      · rw [if_neg ha, if_neg fun hh => ha ((hQ s).1 hh.2), Int.mul_zero]
    · rw [if_neg hs, if_neg (fun (hh : Sub s w ∧ Q s = true) => hs hh.1)]
  rw [sumR_congr h2, sub_sum hw, sumR_first] at h1
  rw [if_pos ⟨sub_zero w, (hQ 0).2 fun e _ => by simp⟩, sgn_zero, Nat.xor_zero, Int.one_mul] at h1
  rw [sumR_first, if_neg (by simp), Int.zero_add]
  have h3 : ∀ i, i < w → (if Sub (i + 1) w ∧ Q (i + 1) = true then sgn K (i + 1) * turns es [] (w ^^^ (i + 1)) else 0) = (if Sub (i + 1) w ∧ i + 1 ≠ 0 ∧ Q (i + 1) = true then sgn K (i + 1) * turns es [] (w ^^^ (i + 1)) else 0) := fun i _ => by
    by_cases h : Sub (i + 1) w ∧ Q (i + 1) = true
    · rw [if_pos h, if_pos ⟨h.1, by omega, h.2⟩]
    · rw [if_neg h, if_neg fun hh => h ⟨hh.1, hh.2.2⟩]
  rw [sumR_congr h3] at h1
  omega

end Go.Proofs.YtoblkmbmacimiaaDoor.L
