/- Plain: what the reference's check of a map comes to: what maps.Check tells. -/
import Derived.Test.YtoblkmbmacimiaaDoorRefGraph
import Derived.Test.YtoblkmbmacimiaaDoorGteamsterrefMapCheck
namespace Go.Proofs.YtoblkmbmacimiaaDoor.L
open Go Go.RowKit Go.Proofs.YtoblkmbmacimiaaDoor.B Go.Proofs.YtoblkmbmacimiaaDoorW.PrintWords Go.Proofs.YtoblkmbmacimiaaDoorW.PrintMore Go.Proofs.YtoblkmbmacimiaaDoor.G

/-- From an element on. -/
def okFrom (l : List S57) (v : Nat) : List Int → List Int → Bool
  | _, [] => true
  | pre, x :: t => !decide (x ∈ pre) && (nearB l (v : Int) x && okFrom l v (pre ++ [x]) t)
theorem okFrom_iff (l : List S57) (v : Nat) : ∀ (t pre : List Int), pre.Nodup → (okFrom l v pre t = true ↔ (pre ++ t).Nodup ∧ ∀ j ∈ t, nearB l (v : Int) j = true) := by
  intro t
  induction t with
  | nil => intro pre hp; simp [okFrom, hp]
  | cons x t ih =>
    intro pre hp
    unfold okFrom
    rw [Bool.and_eq_true, Bool.and_eq_true, Bool.not_eq_true', decide_eq_false_iff_not]
    constructor
    · rintro ⟨h1, h2, h3⟩
      have hp2 : (pre ++ [x]).Nodup := List.nodup_append.2 ⟨hp, by simp, fun a ha b hb e => by rw [List.mem_singleton] at hb; subst hb; subst e; exact h1 ha⟩
      obtain ⟨h4, h5⟩ := (ih _ hp2).1 h3
      rw [List.append_assoc] at h4
      refine ⟨h4, fun j hj => ?_⟩
      rcases List.mem_cons.1 hj with rfl | hj
      · exact h2
      · exact h5 j hj
    · rintro ⟨h1, h2⟩
      have h3 := (List.nodup_append.1 h1).2.2
      have hx : x ∉ pre := fun hh => h3 x hh x List.mem_cons_self rfl
      have hp2 : (pre ++ [x]).Nodup := List.nodup_append.2 ⟨hp, by simp, fun a ha b hb e => by rw [List.mem_singleton] at hb; subst hb; subst e; exact hx ha⟩
      refine ⟨hx, h2 x List.mem_cons_self, (ih _ hp2).2 ⟨by rw [List.append_assoc]; exact h1, fun j hj => h2 j (List.mem_cons_of_mem _ hj)⟩⟩

theorem map_l1 {n : Nat} {l : List S57} (g : Good n l) (round : List (List Int)) (i : Nat) (R : Int)
    (row : List Int) (hl : row.length < 4611686018427387904)
    (next : okFrom l i [] row = true → Ev (fun k => teamsterref_MapCheck.l0 k round (round.length : Int) (wrap64 ((i : Int) + 1)) (n : Int) l) R) (hno : okFrom l i [] row = false → R = 3) :
    ∀ d j, j + d = row.length → okFrom l i [] row = okFrom l i (row.take j) (row.drop j) → Ev (fun k => teamsterref_MapCheck.l1 k (i : Int) row round (round.length : Int) (i : Int) row (row.length : Int) (j : Int) (n : Int) l) R := by
  intro d
  induction d with
  | zero =>
    intro j hj he
    rw [List.drop_eq_nil_of_le (by omega)] at he
    refine Ev.step (fun k => ?_) (next (by rw [he]; rfl))
    conv => lhs; rw [teamsterref_MapCheck.l1]
    rw [if_neg (by omega)]
  | succ d ih =>
    intro j hj he
    have hw : wrap64 ((j : Int) + 1) = ((j + 1 : Nat) : Int) := by rw [w64 (by omega) (by omega)]; omega
    have r1 := rdI row j (by omega)
    have htk : row.take (j + 1) = row.take j ++ [row[j]'(by omega)] := by rw [List.take_add_one, List.getElem?_eq_getElem (by omega)]; rfl
    rw [List.drop_eq_getElem_cons (show j < row.length by omega), okFrom, ← htk] at he
    have hh := has_is (row[j]'(by omega)) (row.take j) (by rw [List.length_take]; omega)
    have hn := near_ref_is (n : Int) l (i : Int) (row[j]'(by omega)) g.len
    have hih := ih (j + 1) (by omega)
    generalize row[j]'(by omega) = x at *
    refine Ev.step (g := fun k => (teamsterref_Has.f k (row.take j) x).bind fun t => if t = true then some 3 else (teamsterref_Near.f k (n : Int) l (i : Int) x).bind fun t2 => if t2 = true then teamsterref_MapCheck.l1 k (i : Int) row round (round.length : Int) (i : Int) row (row.length : Int) ((j + 1 : Nat) : Int) (n : Int) l else some 3) (fun k => ?_) (Ev.bind hh ?_)
    · conv => lhs; rw [teamsterref_MapCheck.l1]
      rw [if_pos (by omega), if_pos (by omega), if_pos (by omega), if_pos (by omega), r1, hw, Int.toNat_natCast]
    · by_cases h1 : x ∈ row.take j
      · rw [decide_eq_true h1] at he ⊢
        rw [hno (by rw [he]; rfl)]
        exact .of_eq fun _ => rfl
      · rw [decide_eq_false h1] at he ⊢
        simp only [Bool.false_eq_true, if_false]
        refine Ev.bind hn ?_
        cases h2 : nearB l (i : Int) x
        · rw [h2] at he
          rw [hno (by rw [he]; rfl)]
          exact .of_eq fun _ => rfl
        · rw [h2] at he
          simp only [if_true]
          exact hih (by rw [he]; rfl)

theorem rd4 (round : List (List Int)) (i : Nat) (h : i < round.length) : rd_L4 round (i : Int) = round[i] := by
  unfold rd_L4; rw [Int.toNat_natCast, List.getD_eq_getElem?_getD, List.getElem?_eq_getElem h]; rfl

open Classical in
noncomputable def restOk (l : List S57) (round : List (List Int)) (i : Nat) : Bool := decide (∀ v, i ≤ v → v < round.length → rowOk l v (rd_L4 round (v : Int)))

theorem restOk_iff (l : List S57) (round : List (List Int)) (i : Nat) : restOk l round i = true ↔ ∀ v, i ≤ v → v < round.length → rowOk l v (rd_L4 round (v : Int)) := by
  unfold restOk; exact @decide_eq_true_iff _ (Classical.propDecidable _)
theorem nbr_lt10 {n : Nat} {l : List S57} (g : Good n l) {i j : Nat} (h : nbr (E l) i j) : j < n := by
  obtain ⟨e, he, hc⟩ := h
  unfold E at he
  obtain ⟨f, hf, rfl⟩ := List.mem_map.1 he
  have := g.ends f hf
  simp only at hc; omega

theorem map_l0 {n : Nat} {l : List S57} (g : Good n l) (round : List (List Int)) (hrl : round.length ≤ 10) (hl : ∀ r ∈ round, r.length < 4611686018427387904) : ∀ d i, i + d = round.length → Ev (fun k => teamsterref_MapCheck.l0 k round (round.length : Int) (i : Int) (n : Int) l) (if restOk l round i = true then 0 else 3) := by
  intro d
  induction d with
  | zero =>
    intro i hi
    have : restOk l round i = true := (restOk_iff _ _ _).2 fun v h1 h2 => by omega
    rw [if_pos this]
    refine Ev.step (g := fun _ => some 0) (fun k => ?_) (.const _)
    rw [teamsterref_MapCheck.l0, if_neg (by omega)]
  | succ d ih =>
    intro i hi
    have hw : wrap64 ((i : Int) + 1) = ((i + 1 : Nat) : Int) := by rw [w64 (by omega) (by omega)]; omega
    have hih := ih (i + 1) (by omega)
    have hrow := hl (rd_L4 round (i : Int)) (by rw [rd4 round i (by omega)]; exact List.getElem_mem _)
    have hstep : restOk l round i = true ↔ rowOk l i (rd_L4 round (i : Int)) ∧ restOk l round (i + 1) = true := by
      rw [restOk_iff, restOk_iff]
      constructor
      · intro h; exact ⟨h i (Nat.le_refl _) (by omega), fun v h1 h2 => h v (by omega) h2⟩
      · rintro ⟨h1, h2⟩ v h3 h4
        by_cases e : v = i
        · subst e; exact h1
        · exact h2 v (by omega) h4
    refine Ev.step (g := fun k => (teamsterref_Degree.f k (n : Int) l (i : Int)).bind fun t => if ((rd_L4 round (i : Int)).length : Int) = t then teamsterref_MapCheck.l1 k (i : Int) (rd_L4 round (i : Int)) round (round.length : Int) (i : Int) (rd_L4 round (i : Int)) ((rd_L4 round (i : Int)).length : Int) 0 (n : Int) l else some 3) (fun k => ?_) (Ev.bind (degree_is g i (n : Int)) ?_)
    · conv => lhs; rw [teamsterref_MapCheck.l0]
      rw [if_pos (by omega), if_pos (by omega), if_pos (by omega)]
    · by_cases hd : ((rd_L4 round (i : Int)).length : Int) = deg (E l) i
      · simp only [if_pos hd]
        have hiff := okFrom_iff l i (rd_L4 round (i : Int)) [] List.nodup_nil
        rw [List.nil_append] at hiff
        refine map_l1 g round i _ (rd_L4 round (i : Int)) hrow (fun ht => ?_) (fun hf => ?_) (rd_L4 round (i : Int)).length 0 (by omega) (by simp)
        · have hok : rowOk l i (rd_L4 round (i : Int)) := ⟨hd, hiff.1 ht⟩
          rw [hw]
          by_cases hr : restOk l round (i + 1) = true
          · rw [if_pos (hstep.2 ⟨hok, hr⟩)]; rw [if_pos hr] at hih; exact hih
          · rw [if_neg fun hh => hr (hstep.1 hh).2]; rw [if_neg hr] at hih; exact hih
        · rw [if_neg]
          intro hh
          have := hiff.2 (hstep.1 hh).1.2
          rw [hf] at this; cases this
      · simp only [if_neg hd]
        rw [if_neg fun hh => hd (hstep.1 hh).1.1]
        exact .of_eq fun _ => rfl

/-- Both say the same. -/
theorem map_check_is (n : Int) (l : List S57) (round : List (List Int)) (hl : ∀ r ∈ round, r.length * 8 ≤ 140737488355328) : ∃ r, maps_Check.f n l round = some r ∧ Ev (fun k => teamsterref_MapCheck.f k n l round) r := by
  unfold maps_Check.f
  by_cases hc : gcheck n l = 0
  · rw [if_neg (fun h => h hc)]
    have hgc := gc_is n l
    rw [hc] at hgc
    by_cases hrl : (round.length : Int) = n
    · rw [if_neg (fun h => h hrl), if_pos hl]
      obtain ⟨m, rfl, g⟩ := good_of hc
      refine ⟨_, rfl, ?_⟩
      unfold teamsterref_MapCheck.f
      refine Ev.bind hgc ?_
      simp only [if_true, if_pos hrl]
      have h10 := g.n10
      have h := map_l0 g round (by omega) (fun r hr => by have := hl r hr; omega) round.length 0 (by omega)
      have hp := good_apart hc g
      have he : ((List.range ((m : Int)).toNat).all (roundB (E l) round) = true) ↔ restOk l round 0 = true := by
        rw [Int.toNat_natCast, List.all_eq_true]
        unfold roundB
        rw [restOk_iff]
        have hu : ∀ v, v < m → nbword (E l) v < 4294967296 := fun v hv => by
          refine Nat.lt_of_lt_of_le (Nat.lt_pow_two_of_testBit (n := 10) _ fun i hi => ?_) (by decide)
          cases hb : (nbword (E l) v).testBit i
          · rfl
          · have := nbr_lt10 g ((nbword_bit v _ i).1 hb); omega
        constructor
        · intro h1 v _ h2
          exact (row_iff g hp v (hu v (by omega)) _).2 (by simpa using h1 v (List.mem_range.2 (by omega)))
        · intro h1 v hv
          rw [decide_eq_true_eq]
          have := List.mem_range.1 hv
          exact (row_iff g hp v (hu v (by omega)) _).1 (h1 v (Nat.zero_le _) (by omega))
      by_cases hr : restOk l round 0 = true
      · rw [if_pos (he.2 hr)]; rw [if_pos hr] at h; exact h
      · rw [if_neg fun hh => hr (he.1 hh)]; rw [if_neg hr] at h; exact h
    · rw [if_pos hrl]
      refine ⟨_, rfl, ?_⟩
      unfold teamsterref_MapCheck.f
      refine Ev.bind hgc ?_
      simp only [if_true, if_neg hrl]
      exact .of_eq fun _ => rfl
  · rw [if_pos hc]
    refine ⟨_, rfl, ?_⟩
    unfold teamsterref_MapCheck.f
    refine Ev.bind (gc_is n l) ?_
    simp only [if_neg hc]
    exact .of_eq fun _ => rfl

end Go.Proofs.YtoblkmbmacimiaaDoor.L
