/- The law ScoreMakes in plain numbers, for lists of at most 1048576. -/
import Derived.Test.YtoblkmbmacimiaaMakes
namespace Go.Proofs.Ytoblkmbmacimiaa.L
open Go Go.RowKit Go.Proofs.YtoblkmbmacimiaaW.PrintWords Go.Proofs.YtoblkmbmacimiaaW.PrintMore Go.Proofs.Ytoblkmbmacimiaa.G

def nodes (l : List Int) (i : Nat) : List S113 := List.map (fun j : Nat => (⟨(j : Int), at_ l j⟩ : S113)) (List.range i)
theorem nodes_len (l : List Int) (i : Nat) : (nodes l i).length = i := by unfold nodes; rw [List.length_map, List.length_range]
theorem nodes_holds (l : List Int) : Holds l.length (at_ l) (nodes l l.length) := by
  refine ⟨fun x hx => ?_, ?_, fun i hi _ => ?_⟩
  · unfold nodes at hx
    rw [List.mem_map] at hx
    obtain ⟨j, hj, rfl⟩ := hx
    exact ⟨j, List.mem_range.1 hj, rfl, rfl⟩
  · unfold nodes
    rw [List.map_map]
    exact List.pairwise_map.2 (List.nodup_range.imp fun {a b} h e => h (by have e' : (a : Int) = (b : Int) := e; omega))
  · refine ⟨⟨(i : Int), at_ l i⟩, ?_, rfl⟩
    unfold nodes
    rw [List.mem_map]
    exact ⟨i, List.mem_range.2 hi, rfl⟩

theorem score_start (l : List Int) (hl : l.length ≤ 10) : ((∃ p, p < l.length ∧ (at_ l p < 0 ∨ (l.length : Int) ≤ at_ l p)) → Ev (fun k => score_Make.f k l) (0, [], 5)) ∧
    ((∀ p, p < l.length → 0 ≤ at_ l p ∧ at_ l p < l.length) → ∀ r : SRes, Ev (fun k => score_Make.l1 k (nodes l l.length) (l.length : Int) []) r → Ev (fun k => score_Make.f k l) r) := by
  have start : ∀ r : SRes, Ev (fun k => score_Make.l0 k l (nodes l 0) l (l.length : Int) ((0 : Nat) : Int)) r → Ev (fun k => score_Make.f k l) r := fun r hr => by
    refine Ev.congr (fun k => ?_) hr
    unfold score_Make.f
    rw [if_neg (by omega)]
    rfl
  have hx : ∀ i : Nat, rd l (i : Int) = at_ l i := fun i => rfl
  have next : ∀ i, i < l.length → ¬ (at_ l i < 0 ∨ (l.length : Int) ≤ at_ l i) → ∀ r : SRes, Ev (fun k => score_Make.l0 k l (nodes l (i + 1)) l (l.length : Int) ((i + 1 : Nat) : Int)) r → Ev (fun k => score_Make.l0 k l (nodes l i) l (l.length : Int) (i : Int)) r := fun i hi hok r hR => by
    have hnl := nodes_len l i
    refine Ev.step (fun k => ?_) hR
    conv => lhs; rw [score_Make.l0]
    rw [if_pos (by omega), if_pos (by omega), if_pos (by omega), hx i, if_neg (by omega), if_neg (by omega), if_pos (by omega), wnext i (by omega)]
    congr 1
    unfold nodes
    rw [List.range_succ, List.map_append]; rfl
  refine ⟨fun hbad => start _ ?_, fun hok r hR => start _ ?_⟩
  · have key : ∀ d i, i + d = l.length → (∃ p, i ≤ p ∧ p < l.length ∧ (at_ l p < 0 ∨ (l.length : Int) ≤ at_ l p)) → Ev (fun k => score_Make.l0 k l (nodes l i) l (l.length : Int) (i : Int)) (0, [], 5) := by
      intro d
      induction d with
      | zero => rintro i hi ⟨p, h1, h2, _⟩; omega
      | succ d ih =>
        rintro i hi ⟨p, h1, h2, h3⟩
        by_cases hb : at_ l i < 0 ∨ (l.length : Int) ≤ at_ l i
        · refine Ev.step (g := fun _ => some (0, [], 5)) (fun k => ?_) (.const _)
          rw [score_Make.l0, if_pos (by omega), if_pos (by omega), if_pos (by omega), hx i]
          by_cases h0 : at_ l i < 0
          · rw [if_pos h0]
          · rw [if_neg h0, if_pos (by omega)]
        · refine next i (by omega) hb _ (ih (i + 1) (by omega) ⟨p, ?_, h2, h3⟩)
          rcases Nat.eq_or_lt_of_le h1 with rfl | h
          · exact absurd h3 hb
          · exact h
    obtain ⟨p, h1, h2⟩ := hbad
    exact key l.length 0 (by omega) ⟨p, Nat.zero_le _, h1, h2⟩
  · have key : ∀ d i, i + d = l.length → Ev (fun k => score_Make.l0 k l (nodes l i) l (l.length : Int) (i : Int)) r := by
      intro d
      induction d with
      | zero =>
        intro i hi
        obtain rfl : i = l.length := by omega
        refine Ev.step (fun k => ?_) hR
        conv => lhs; rw [score_Make.l0]
        rw [if_neg (by omega)]
      | succ d ih =>
        intro i hi
        have := hok i (by omega)
        exact next i (by omega) (by omega) r (ih (i + 1) (by omega))
    exact key l.length 0 (by omega)

theorem edges_same (es : List S75) (hl : es.length ≤ 900000) : Ev (fun k => teamsterref_Edges.f k es es) true := by
  have key : ∀ d i, i + d = es.length → Ev (fun k => teamsterref_Edges.l0 k es es (i : Int)) true := by
    intro d
    induction d with
    | zero =>
      intro i hi
      refine Ev.step (g := fun _ => some true) (fun k => ?_) (.const _)
      rw [teamsterref_Edges.l0, if_neg (by omega)]
    | succ d ih =>
      intro i hi
      refine Ev.step (fun k => ?_) (ih (i + 1) (by omega))
      conv => lhs; rw [teamsterref_Edges.l0]
      rw [if_pos (by omega), if_pos (by omega), if_pos (by omega), if_neg (by simp), wnext i (by omega)]
  refine Ev.congr (fun k => ?_) (key es.length 0 (by omega))
  unfold teamsterref_Edges.f
  rw [if_pos rfl]; rfl

/-- A run's edges are as many as there is need. -/
theorem run_len {n : Nat} {need : Nat → Int} {es : List S75} {r : Option (List S75)} (h : Run n need es r) : (∀ i, i < n → 0 ≤ need i ∧ need i ≤ 1100000) → ∀ es', r = some es' → es'.length ≤ es.length + (sumR n need).toNat := by
  induction h with
  | done _ => intro _ es' e; cases e; omega
  | stuck _ _ _ _ => intro _ es' e; cases e
  | @step need es v gs r hf hp hch ht _ ih =>
    intro hb es' e
    obtain ⟨a1, a2⟩ := after_facts hb hf.1 hch ht
    have hs0 : 0 ≤ sumR n (after need v gs) := sumR_nonneg fun i hi => (a1 i hi).1
    have := ih a1 es' e
    have hel : (edges v gs).length = gs.length := by unfold edges; rw [List.length_map]
    rw [List.length_append, hel] at this
    omega

theorem ref_ends (l : List Int) (hl : l.length ≤ 1048576) : ∃ r : Res, Ev (fun k => teamsterref_Make.f k l) r := by
  rcases ref_start l (by omega) with ⟨_, h⟩ | ⟨h1, h2⟩
  · exact ⟨_, h⟩
  · have hb : ∀ i, i < l.length → 0 ≤ at_ l i ∧ at_ l i ≤ 1100000 := fun i hi => by have := h1 i hi; omega
    obtain ⟨r, hr⟩ := run_ex _ (at_ l) hb (Nat.le_refl _) []
    have hsum : sumR l.length (at_ l) ≤ 1048576 * l.length := by
      rw [← sumR_const]
      exact sumR_mono fun i hi => by have := h1 i hi; omega
    exact ⟨_, h2 _ (run_ref (by omega) hr hb (by simp; omega) l rfl fun i hi => rfl)⟩

theorem pure_makes (l : List Int) (hl : l.length ≤ 1048576) : ∃ k, teamsterlaw_ScoreMakes.f k l = some true := by
  refine Ev.get (v := true) ?_
  unfold teamsterlaw_ScoreMakes.f
  by_cases h10 : (l.length : Int) > 10
  · obtain ⟨r, hr⟩ := ref_ends l hl
    have hs : Ev (fun k => score_Make.f k l) (0, [], 1) := .of_eq fun k => by unfold score_Make.f; rw [if_pos h10]
    refine Ev.bind hs ?_
    simp only [if_pos h10]
    refine Ev.step (g := fun k => (teamsterref_Make.f k l).bind fun bt171 => teamsterlaw_ScoreMakes.j1 k 1 1 false 0 [] bt171.1 bt171.2.1) (fun k => ?_) (Ev.bind hr (Ev.step (g := fun _ => some true) (fun k => ?_) (.const _)))
    · conv => lhs; rw [teamsterlaw_ScoreMakes.j0]
      simp
    · rw [teamsterlaw_ScoreMakes.j1]; simp
  · have hl10 : l.length ≤ 10 := by omega
    obtain ⟨s1, s2⟩ := score_start l hl10
    have fails : Ev (fun k => score_Make.f k l) (0, [], 5) → Ev (fun k => teamsterref_Make.f k l) (0, [], false) → Ev (fun k => (score_Make.f k l).bind fun bt165 => (if (l.length : Int) > 10 then (teamsterlaw_ScoreMakes.j0 k l bt165.2.2 1 bt165.1 bt165.2.1) else (teamsterlaw_ScoreMakes.j0 k l bt165.2.2 0 bt165.1 bt165.2.1))) true := fun ha hb => by
      refine Ev.bind ha ?_
      simp only [if_neg h10]
      refine Ev.step (g := fun k => (teamsterref_Make.f k l).bind fun bt171 => teamsterlaw_ScoreMakes.j1 k 5 0 (!bt171.2.2) 0 [] bt171.1 bt171.2.1) (fun k => ?_) (Ev.bind hb (Ev.step (g := fun _ => some true) (fun k => ?_) (.const _)))
      · conv => lhs; rw [teamsterlaw_ScoreMakes.j0]
        simp
      · rw [teamsterlaw_ScoreMakes.j1]; simp
    rcases ref_start l (by omega) with ⟨h, h'⟩ | ⟨h1, h2⟩
    · exact fails (s1 h) h'
    · have hb0 : ∀ i, i < l.length → 0 ≤ at_ l i ∧ at_ l i ≤ 1000 := fun i hi => by have := h1 i hi; omega
      have hb : ∀ i, i < l.length → 0 ≤ at_ l i ∧ at_ l i ≤ 1100000 := fun i hi => by have := h1 i hi; omega
      have hsum := (sum_bound h1 hl10 l.length (Nat.le_refl _)).2
      obtain ⟨r, k1, k2⟩ := scored_main _ (at_ l) (nodes l l.length) [] (nodes_holds l) hb0 (by rw [nodes_len]; exact hl10) (Nat.le_refl _) (by simp; omega)
      have hS := s2 h1 _ k2
      have hR := h2 _ (run_ref (by omega) k1 hb (by simp; omega) l rfl fun i hi => rfl)
      cases r with
      | none => exact fails hS hR
      | some es =>
        have hel := run_len k1 hb es rfl
        refine Ev.bind hS ?_
        simp only [if_neg h10, sresOf]
        refine Ev.step (g := fun k => (teamsterref_Make.f k l).bind fun bt171 => teamsterlaw_ScoreMakes.j1 k 0 0 (!bt171.2.2) (l.length : Int) es bt171.1 bt171.2.1) (fun k => ?_) (Ev.bind hR (Ev.step (g := fun k => (teamsterref_Edges.f k es es).bind fun t => some t) (fun k => ?_) (Ev.bind (edges_same es (by simp at hel; omega)) (.const _))))
        · conv => lhs; rw [teamsterlaw_ScoreMakes.j0]
          simp
        · rw [teamsterlaw_ScoreMakes.j1]; simp [resOf]

end Go.Proofs.Ytoblkmbmacimiaa.L
