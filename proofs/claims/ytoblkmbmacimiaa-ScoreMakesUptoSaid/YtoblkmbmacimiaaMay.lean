/- Plain: what slices.Reverse and score.May come to. -/
import Derived.Test.YtoblkmbmacimiaaEv
import Derived.Test.YtoblkmbmacimiaaSplit
import Derived.Test.YtoblkmbmacimiaaGscoreMay
namespace Go.Proofs.Ytoblkmbmacimiaa.L
open Go Go.RowKit Go.Proofs.YtoblkmbmacimiaaW.PrintWords Go.Proofs.YtoblkmbmacimiaaW.PrintMore Go.Proofs.Ytoblkmbmacimiaa.G

theorem at_set (xs : List Int) (a v : Nat) (x : Int) (h : a < xs.length) : at_ (xs.set a x) v = if a = v then x else at_ xs v := rd_set xs a v x h
theorem ext_at {xs ys : List Int} (h : xs.length = ys.length) (he : ∀ p, p < xs.length → at_ xs p = at_ ys p) : xs = ys :=
  List.ext_getElem h fun i h1 h2 => by have := he i h1; rwa [at_get _ _ h1, at_get _ _ h2] at this
theorem at_reverse (l : List Int) (p : Nat) (h : p < l.length) : at_ l.reverse p = at_ l (l.length - 1 - p) := by
  rw [at_get _ _ (by rw [List.length_reverse]; exact h), at_get _ _ (by omega), List.getElem_reverse]

theorem rev_l0 (l : List Int) (hl : l.length ≤ 1000) : ∀ d i, 2 * i + d = l.length + 1 → ∀ cur : List Int, cur.length = l.length → (∀ p, p < l.length → at_ cur p = if p < i ∨ l.length ≤ p + i then at_ l (l.length - 1 - p) else at_ l p) →
    Ev (fun k => slices_Reverse_int_int.l0 k cur (i : Int) ((l.length : Int) - 1 - i)) l.reverse := by
  intro d
  induction d using Nat.strongRecOn with
  | _ d ih =>
    intro i hi cur hc hat
    by_cases h : 2 * i + 1 < l.length
    · have hj : (l.length : Int) - 1 - i = ((l.length - 1 - i : Nat) : Int) := by omega
      have L := ih (d - 2) (by omega) (i + 1) (by omega) ((cur.set i (at_ cur (l.length - 1 - i))).set (l.length - 1 - i) (at_ cur i)) (by simp [hc]) (fun p hp => by
        rw [at_set _ _ _ _ (by simp [hc]; omega), at_set _ _ _ _ (by omega)]
        by_cases e1 : l.length - 1 - i = p
        · rw [if_pos e1, if_pos (by omega), hat i (by omega), if_neg (by omega)]
          congr 1; omega
        · rw [if_neg e1]
          by_cases e2 : i = p
          · rw [if_pos e2, if_pos (by omega), hat _ (by omega), if_neg (by omega)]
            congr 1; omega
          · rw [if_neg e2, hat p hp]
            by_cases e3 : p < i ∨ l.length ≤ p + i
            · rw [if_pos e3, if_pos (by omega)]
            · rw [if_neg e3, if_neg (by omega)])
      refine Ev.step (fun k => ?_) L
      conv => lhs; rw [slices_Reverse_int_int.l0]
      rw [hj, if_pos (by omega), if_pos (by omega), if_pos (by omega), if_pos (by omega), if_pos (by omega), wnext i (by omega), w64 (by omega) (by omega), Int.toNat_natCast, Int.toNat_natCast]
      unfold at_
      congr 1
      omega
    · refine Ev.step (g := fun _ => some cur) (fun k => ?_) ?_
      · rw [slices_Reverse_int_int.l0, if_neg (by omega)]
      · rw [show cur = l.reverse from ext_at (by simp [hc]) fun p hp => by
          rw [hc] at hp
          rw [at_reverse l p hp, hat p hp]
          split
          · rfl
          · congr 1; omega]
        exact .const _
theorem rev_is (l : List Int) (hl : l.length ≤ 1000) : Ev (fun k => slices_Reverse_int_int.f k l) l.reverse := by
  have := rev_l0 l hl (l.length + 1) 0 (by omega) l rfl fun p hp => by rw [if_neg (by omega)]
  refine Ev.congr (fun k => ?_) this
  unfold slices_Reverse_int_int.f
  rw [w64 (by omega) (by omega)]
  simp

section
variable {l : List Int} (hl : l.length ≤ 10)

/-- One that is out of range stands still ahead: no. -/
theorem may_bad (hl : l.length ≤ 10) : ∀ d i, i + d = l.length → (∃ p, i ≤ p ∧ p < l.length ∧ (at_ l p < 0 ∨ (l.length : Int) ≤ at_ l p)) → ∀ x5 : Int, Ev (fun k => score_May.l0 k l x5 (l.length : Int) l (l.length : Int) (i : Int)) (false, 0) := by
  intro d
  induction d with
  | zero => rintro i hi ⟨p, h1, h2, _⟩ x5; omega
  | succ d ih =>
    rintro i hi ⟨p, h1, h2, h3⟩ x5
    have hlt : i < l.length := by omega
    have hx : rd l (i : Int) = at_ l i := rfl
    by_cases hb : at_ l i < 0 ∨ (l.length : Int) ≤ at_ l i
    · refine Ev.step (g := fun k => score_May.j1 k l x5 (l.length : Int) (i : Int) (at_ l i) l (l.length : Int) (i : Int) true) (fun k => ?_) (Ev.step (g := fun _ => some (false, 0)) (fun k => ?_) (.const _))
      · conv => lhs; rw [score_May.l0]
        rw [if_pos (by omega), if_pos (by omega), if_pos (by omega), hx]
        by_cases h0 : at_ l i < 0
        · rw [if_pos h0]
        · rw [if_neg h0, decide_eq_true (by omega)]
      · rw [score_May.j1, if_pos rfl]
    · have hne : i ≠ p := fun e => hb (by rw [e]; exact h3)
      have next := ih (i + 1) (by omega) ⟨p, by omega, h2, h3⟩
      have inner : ∀ m j, j + m = (l.drop (i + 1)).length → ∀ x9 : Int, Ev (fun k => score_May.l1 k l (wrap64 (x5 + at_ l i)) (l.length : Int) (i : Int) x9 l (l.length : Int) (i : Int) (l.drop (i + 1)) ((l.drop (i + 1)).length : Int) (j : Int)) (false, 0) := by
        intro m
        induction m with
        | zero =>
          intro j hj x9
          by_cases hgt : wrap64 (x5 + at_ l i) > x9
          · refine Ev.step (g := fun _ => some (false, 0)) (fun k => ?_) (.const _)
            rw [score_May.l1, if_neg (by omega), if_pos hgt]
          · refine Ev.step (fun k => ?_) (next (wrap64 (x5 + at_ l i)))
            conv => lhs; rw [score_May.l1]
            rw [if_neg (by omega), if_neg hgt, wnext i (by omega)]
        | succ m ihm =>
          intro j hj x9
          have hdl : (l.drop (i + 1)).length ≤ l.length := by rw [List.length_drop]; omega
          refine Ev.step (fun k => ?_) (ihm (j + 1) (by omega) (wrap64 (x9 + (mn (rd (l.drop (i + 1)) (j : Int)) (wrap64 ((i : Int) + 1))))))
          conv => lhs; rw [score_May.l1]
          rw [if_pos (by omega), if_pos (by omega), if_pos (by omega), wnext j (by omega)]
      refine Ev.step (g := fun k => score_May.j1 k l x5 (l.length : Int) (i : Int) (at_ l i) l (l.length : Int) (i : Int) false) (fun k => ?_) (Ev.step (fun k => ?_) (inner _ 0 (Nat.zero_add _) (wrap64 (wrap64 ((i : Int) + 1) * i))))
      · conv => lhs; rw [score_May.l0]
        rw [if_pos (by omega), if_pos (by omega), if_pos (by omega), hx, if_neg (by omega), decide_eq_false (by omega)]
      · conv => lhs; rw [score_May.j1]
        rw [if_neg (by simp), wnext i (by omega), if_pos (by omega), if_pos (by omega)]
        simp only [Option.bind_some, Int.toNat_natCast]
        rfl

theorem at_drop (l : List Int) (i p : Nat) : at_ (l.drop i) p = at_ l (i + p) := by
  unfold at_ rd
  rw [Int.toNat_natCast, Int.toNat_natCast, List.getD_eq_getElem?_getD, List.getD_eq_getElem?_getD, List.getElem?_drop]

theorem sum_bound {l : List Int} (hr : ∀ p, p < l.length → 0 ≤ at_ l p ∧ at_ l p < l.length) (hl : l.length ≤ 10) : ∀ i, i ≤ l.length → 0 ≤ sumR i (at_ l) ∧ sumR i (at_ l) ≤ 10 * i := by
  intro i
  induction i with
  | zero => intro _; exact ⟨Int.le_refl _, Int.le_refl _⟩
  | succ i ih =>
    intro h
    have h1 := ih (by omega)
    have h2 := hr i (by omega)
    simp only [sumR]
    omega

theorem may_good (hl : l.length ≤ 10) (hr : ∀ p, p < l.length → 0 ≤ at_ l p ∧ at_ l p < l.length) : ∀ d i, i + d = l.length →
    ∃ b, Ev (fun k => score_May.l0 k l (sumR i (at_ l)) (l.length : Int) l (l.length : Int) (i : Int)) (b, 0) ∧ (b = true ↔ (∀ j, i ≤ j → j < l.length → Pre l.length (at_ l) j) ∧ sumR l.length (at_ l) % 2 = 0) := by
  intro d
  induction d with
  | zero =>
    intro i hi
    obtain rfl : i = l.length := by omega
    have hb := sum_bound hr hl l.length (Nat.le_refl _)
    refine ⟨(Int.tmod (sumR l.length (at_ l)) 2 == 0), Ev.step (g := fun _ => some ((Int.tmod (sumR l.length (at_ l)) 2 == 0), 0)) (fun k => ?_) (.const _), ?_⟩
    · rw [score_May.l0, if_neg (by omega)]
    · rw [beq_iff_eq, Int.tmod_eq_emod_of_nonneg hb.1]
      exact ⟨fun h => ⟨fun j h1 h2 => by omega, h⟩, fun h => h.2⟩
  | succ d ih =>
    intro i hi
    have hlt : i < l.length := by omega
    have hx : rd l (i : Int) = at_ l i := rfl
    have hb := sum_bound hr hl i (by omega)
    have hb1 := sum_bound hr hl (i + 1) (by omega)
    have hri := hr i hlt
    have hs : wrap64 (sumR i (at_ l) + at_ l i) = sumR (i + 1) (at_ l) := w64 (by omega) (by simp only [sumR] at hb1; omega)
    obtain ⟨b, hev, hbb⟩ := ih (i + 1) (by omega)
    have hdl : (l.drop (i + 1)).length = l.length - (i + 1) := List.length_drop
    have hmul : ((i : Int) + 1) * i = ((i + 1) * i : Nat) := by rw [Int.natCast_mul, Int.natCast_succ]
    have hmb : (i + 1) * i ≤ 10 * 10 := Nat.mul_le_mul (by omega) (by omega)
    have hq : ∃ q : Int, ((i : Int) + 1) * i = q ∧ 0 ≤ q ∧ q ≤ 100 := ⟨_, hmul, by generalize (i + 1) * i = z at *; omega, by generalize (i + 1) * i = z at *; omega⟩
    obtain ⟨q, hq, hq0, hq1⟩ := hq
    clear hmul hmb
    have M : ∀ m, m ≤ l.length - (i + 1) → 0 ≤ sumR m (fun p => min (at_ l (i + 1 + p)) ((i : Int) + 1)) ∧ sumR m (fun p => min (at_ l (i + 1 + p)) ((i : Int) + 1)) ≤ 100 * m := by
      intro m
      induction m with
      | zero => intro _; exact ⟨Int.le_refl _, Int.le_refl _⟩
      | succ m ihm =>
        intro h
        have := ihm (by omega)
        have := hr (i + 1 + m) (by omega)
        simp only [sumR]
        omega
    have inner : ∀ (R : Bool × Int), Ev (fun k => if sumR (i + 1) (at_ l) > ((i : Int) + 1) * i + sumR (l.length - (i + 1)) (fun p => min (at_ l (i + 1 + p)) ((i : Int) + 1)) then some (false, 0) else score_May.l0 k l (sumR (i + 1) (at_ l)) (l.length : Int) l (l.length : Int) ((i + 1 : Nat) : Int)) R →
        ∀ m j, j + m = (l.drop (i + 1)).length → Ev (fun k => score_May.l1 k l (sumR (i + 1) (at_ l)) (l.length : Int) (i : Int) (((i : Int) + 1) * i + sumR j (fun p => min (at_ l (i + 1 + p)) ((i : Int) + 1))) l (l.length : Int) (i : Int) (l.drop (i + 1)) ((l.drop (i + 1)).length : Int) (j : Int)) R := by
      intro R hR m
      induction m with
      | zero =>
        intro j hj
        obtain rfl : j = l.length - (i + 1) := by omega
        refine Ev.step (fun k => ?_) hR
        conv => lhs; rw [score_May.l1]
        rw [if_neg (by omega), wnext i (by omega)]
      | succ m ihm =>
        intro j hj
        have hMj := M (j + 1) (by omega)
        refine Ev.step (fun k => ?_) (ihm (j + 1) (by omega))
        conv => lhs; rw [score_May.l1]
        have hrj : rd (l.drop (i + 1)) (j : Int) = at_ l (i + 1 + j) := at_drop l (i + 1) j
        have hmn : mn (at_ l (i + 1 + j)) ((i + 1 : Nat) : Int) = min (at_ l (i + 1 + j)) ((i : Int) + 1) := by unfold mn; split <;> omega
        rw [if_pos (by omega), if_pos (by omega), if_pos (by omega), wnext j (by omega), wnext i (by omega), hrj, hmn]
        rw [show wrap64 (((i : Int) + 1) * i + sumR j (fun p => min (at_ l (i + 1 + p)) ((i : Int) + 1)) + min (at_ l (i + 1 + j)) ((i : Int) + 1)) = ((i : Int) + 1) * i + sumR (j + 1) (fun p => min (at_ l (i + 1 + p)) ((i : Int) + 1)) by
          simp only [sumR] at hMj ⊢
          rw [hq]
          rw [w64 (by have := M j (by omega); have := hr (i + 1 + j) (by omega); omega) (by omega)]; omega]
    have enter : ∀ (R : Bool × Int), Ev (fun k => if sumR (i + 1) (at_ l) > ((i : Int) + 1) * i + sumR (l.length - (i + 1)) (fun p => min (at_ l (i + 1 + p)) ((i : Int) + 1)) then some (false, 0) else score_May.l0 k l (sumR (i + 1) (at_ l)) (l.length : Int) l (l.length : Int) ((i + 1 : Nat) : Int)) R →
        Ev (fun k => score_May.l0 k l (sumR i (at_ l)) (l.length : Int) l (l.length : Int) (i : Int)) R := fun R hR => by
      have L := inner R hR _ 0 (Nat.zero_add _)
      refine Ev.step (g := fun k => score_May.j1 k l (sumR i (at_ l)) (l.length : Int) (i : Int) (at_ l i) l (l.length : Int) (i : Int) false) (fun k => ?_) (Ev.step (fun k => ?_) L)
      · conv => lhs; rw [score_May.l0]
        rw [if_pos (by omega), if_pos (by omega), if_pos (by omega), hx, if_neg (by omega), decide_eq_false (by omega)]
      · conv => lhs; rw [score_May.j1]
        rw [if_neg (by simp), wnext i (by omega), if_pos (by omega), if_pos (by omega), hs]
        simp only [Option.bind_some, Int.toNat_natCast]
        rw [show wrap64 (((i + 1 : Nat) : Int) * i) = ((i : Int) + 1) * i + sumR 0 (fun p => min (at_ l (i + 1 + p)) ((i : Int) + 1)) by
          simp only [sumR, Int.add_zero]
          rw [show ((i + 1 : Nat) : Int) = (i : Int) + 1 by omega, hq]
          exact w64 (by omega) (by omega)]
        rfl
    by_cases hP : Pre l.length (at_ l) i
    · refine ⟨b, enter _ (Ev.congr (fun k => ?_) hev), ?_⟩
      · unfold Pre at hP
        rw [if_neg (by omega)]
      · rw [hbb]
        constructor
        · rintro ⟨h1, h2⟩
          exact ⟨fun j ha hb => by
            by_cases e : j = i
            · rw [e]; exact hP
            · exact h1 j (by omega) hb, h2⟩
        · rintro ⟨h1, h2⟩
          exact ⟨fun j ha hb => h1 j (by omega) hb, h2⟩
    · refine ⟨false, enter _ (Ev.of_eq fun k => ?_), ?_⟩
      · unfold Pre at hP
        rw [if_pos (by omega)]
      · constructor
        · intro h; cases h
        · rintro ⟨h1, _⟩; exact absurd (h1 i (Nat.le_refl _) hlt) hP
end

theorem may_is (l0 : List Int) (hl : l0.length ≤ 10) : ∃ b, Ev (fun k => score_May.f k l0) (b, 0) ∧ (b = true ↔ (∀ p, p < l0.length → 0 ≤ at_ l0 p ∧ at_ l0 p < l0.length) ∧ EG l0.length (at_ l0) ∧ sumR l0.length (at_ l0) % 2 = 0) := by
  obtain ⟨s, hs⟩ : ∃ s, s = (l0.mergeSort fun x y => decide (x ≤ y)) := ⟨_, rfl⟩
  have hperm : s.Perm l0 := by rw [hs]; exact List.mergeSort_perm _ _
  have hlen : s.length = l0.length := hperm.length_eq
  have hsort : s.Pairwise fun x y => decide (x ≤ y) = true := by
    rw [hs]
    exact List.pairwise_mergeSort (fun a b c h1 h2 => by simp at *; omega) (fun a b => by simp; omega) l0
  obtain ⟨t, ht⟩ : ∃ t, t = s.reverse := ⟨_, rfl⟩
  have hpt : t.Perm l0 := by rw [ht]; exact s.reverse_perm.trans hperm
  have hlt : t.length = l0.length := hpt.length_eq
  have hfall : ∀ i j, i ≤ j → j < t.length → at_ t j ≤ at_ t i := fun i j h1 h2 => by
    rw [ht, List.length_reverse] at h2
    rw [ht, at_reverse _ _ h2, at_reverse _ _ (by omega), at_get _ _ (by omega), at_get _ _ (by omega)]
    rcases Nat.eq_or_lt_of_le h1 with rfl | h3
    · exact Int.le_refl _
    · have := List.pairwise_iff_getElem.1 hsort (s.length - 1 - j) (s.length - 1 - i) (by omega) (by omega) (by omega)
      simpa using this
  have start : ∀ r, Ev (fun k => score_May.l0 k t 0 (t.length : Int) t (t.length : Int) 0) r → Ev (fun k => score_May.f k l0) r := fun r hr => by
    unfold score_May.f slices_Clone_int_int.f slices_Sort_int_int.f
    simp only [if_neg (show ¬ ((l0.length : Int) > 10) by omega), if_pos (show l0.length * 8 ≤ 140737488355328 by omega), Option.bind_some, if_pos (show l0.length < 4611686018427387904 by omega), ← hs]
    have := rev_is s (by omega)
    rw [← ht] at this
    refine Ev.bind this ?_
    rw [← hlt]; exact hr
  have hmem : (∀ p, p < t.length → 0 ≤ at_ t p ∧ at_ t p < t.length) ↔ (∀ p, p < l0.length → 0 ≤ at_ l0 p ∧ at_ l0 p < l0.length) := by
    have key : ∀ {a b : List Int}, a.Perm b → (∀ p, p < a.length → 0 ≤ at_ a p ∧ at_ a p < a.length) → ∀ p, p < b.length → 0 ≤ at_ b p ∧ at_ b p < b.length := by
      intro a b hp h p hb
      have hm : at_ b p ∈ a := hp.mem_iff.2 (by rw [at_get _ _ hb]; exact List.getElem_mem hb)
      obtain ⟨q, hq, e⟩ := List.getElem_of_mem hm
      have := h q hq
      rw [at_get _ _ hq, e] at this
      rw [← hp.length_eq]; exact this
    exact ⟨key hpt, key hpt.symm⟩
  by_cases hr : ∀ p, p < t.length → 0 ≤ at_ t p ∧ at_ t p < t.length
  · obtain ⟨b, hev, hb⟩ := may_good (by omega) hr t.length 0 (by omega)
    refine ⟨b, start _ hev, ?_⟩
    rw [hb, ← hmem, ← eg_perm hpt, eg_falling (fun i hi => (hr i hi).1) hfall, sum_lsum, sum_lsum, lsum_perm _ hpt]
    constructor
    · rintro ⟨h1, h2⟩; exact ⟨hr, fun k hk => h1 k (Nat.zero_le _) hk, h2⟩
    · rintro ⟨_, h1, h2⟩; exact ⟨fun j _ hj => h1 j hj, h2⟩
  · have hex : ∃ p, p < t.length ∧ (at_ t p < 0 ∨ (t.length : Int) ≤ at_ t p) := by
      apply Classical.byContradiction
      intro hno
      apply hr
      intro p hp
      constructor
      · rcases Int.lt_or_le (at_ t p) 0 with h | h
        · exact absurd ⟨p, hp, .inl h⟩ hno
        · exact h
      · rcases Int.lt_or_le (at_ t p) t.length with h | h
        · exact h
        · exact absurd ⟨p, hp, .inr h⟩ hno
    obtain ⟨p, hp, hbad⟩ := hex
    refine ⟨false, start _ (may_bad (by omega) t.length 0 (by omega) ⟨p, Nat.zero_le _, hp, hbad⟩ 0), ?_⟩
    constructor
    · intro h; cases h
    · rintro ⟨h, _⟩; exact absurd (hmem.2 h) hr

end Go.Proofs.Ytoblkmbmacimiaa.L
