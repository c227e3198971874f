/- Plain: what the reference's Make comes to: it finds a graph when the sums of Erdos and Gallai hold and the whole sum is even. -/
import Derived.Test.YtoblkmbmacimiaaMay
import Derived.Test.YtoblkmbmacimiaaGteamsterrefMake
namespace Go.Proofs.Ytoblkmbmacimiaa.L
open Go Go.RowKit Go.Proofs.YtoblkmbmacimiaaW.PrintWords Go.Proofs.YtoblkmbmacimiaaW.PrintMore Go.Proofs.Ytoblkmbmacimiaa.G

/-- Indices as the program has them. -/
def ints (gs : List Nat) : List Int := List.map (fun x : Nat => (x : Int)) gs
theorem ints_len (gs : List Nat) : (ints gs).length = gs.length := List.length_map _
theorem at_ints (gs : List Nat) (p : Nat) (h : p < gs.length) : rd (ints gs) (p : Int) = ((gs[p] : Nat) : Int) := by
  have := at_get (ints gs) p (by rw [ints_len]; exact h)
  unfold at_ at this
  rw [this]; simp [ints]

theorem has_is (gs : List Nat) (hl : gs.length ≤ 1000) (j : Nat) : Ev (fun k => teamsterref_Has.f k (ints gs) (j : Int)) (decide (j ∈ gs)) := by
  have key : ∀ d p, p + d = gs.length → Ev (fun k => teamsterref_Has.l0 k (j : Int) (ints gs) ((ints gs).length : Int) (p : Int)) (decide (j ∈ gs.drop p)) := by
    intro d
    induction d with
    | zero =>
      intro p hp
      have hpl := ints_len gs
      obtain rfl : p = gs.length := by omega
      rw [List.drop_length]
      refine Ev.step (g := fun _ => some false) (fun k => ?_) (.const _)
      rw [teamsterref_Has.l0, if_neg (by omega)]
    | succ d ih =>
      intro p hp
      have hpl := ints_len gs
      have hlt : p < gs.length := by omega
      rw [List.drop_eq_getElem_cons hlt]
      by_cases e : j = gs[p]
      · rw [decide_eq_true (by rw [← e]; exact List.mem_cons_self)]
        refine Ev.step (g := fun _ => some true) (fun k => ?_) (.const _)
        rw [teamsterref_Has.l0, if_pos (by omega), if_pos (by omega), if_pos (by omega), at_ints gs p hlt, if_pos (by omega)]
      · have : decide (j ∈ gs[p] :: gs.drop (p + 1)) = decide (j ∈ gs.drop (p + 1)) := decide_eq_decide.2 (by rw [List.mem_cons]; exact ⟨fun h => h.resolve_left e, .inr⟩)
        rw [this]
        refine Ev.step (fun k => ?_) (ih (p + 1) (by omega))
        conv => lhs; rw [teamsterref_Has.l0]
        rw [if_pos (by omega), if_pos (by omega), if_pos (by omega), at_ints gs p hlt, if_neg (by omega), wnext p (by omega)]
  exact key gs.length 0 (by omega)

/-- The best one so far. -/
def Best (cur : List Int) (gs : List Nat) (v j : Nat) (c : Int) : Prop :=
  (c = -1 ∧ ∀ i, i < j → i ≠ v → i ∉ gs → at_ cur i ≤ 0) ∨
  ∃ m : Nat, c = m ∧ m < j ∧ m ≠ v ∧ m ∉ gs ∧ 0 < at_ cur m ∧ ∀ i, i < j → i ≠ v → i ∉ gs → at_ cur i ≤ at_ cur m

abbrev Res := Int × (List S75) × Bool

theorem make_l4 {n : Nat} {cur : List Int} (hc : cur.length = n) (hn : n ≤ 10) (gs : List Nat) (hg : gs.length ≤ 1000) (v : Nat) (g0 : Int) (es : List S75) :
    ∀ d j, j + d = n → ∀ c, Best cur gs v j c → ∃ c', Best cur gs v n c' ∧ ∀ R : Res,
      Ev (fun k => if c' < 0 then (some (0, ([] : List S75), false)) else (if (ints gs).length < 17592186044416 then (if 0 ≤ (v : Int) then (if (v : Int) < (cur.length : Int) then (if es.length < 5864062014805 then (teamsterref_Make.l3 k (n : Int) (cur.set ((v : Int)).toNat (wrap64 ((rd cur (v : Int)) - 1))) (v : Int) (ints gs ++ [c']) g0 (es ++ [(⟨(v : Int), c', 0⟩ : S75)])) else (none)) else (none)) else (none)) else (none))) R →
      Ev (fun k => teamsterref_Make.l4 k (n : Int) cur (v : Int) (ints gs) c (j : Int) g0 es) R := by
  intro d
  induction d with
  | zero =>
    intro j hj c hB
    obtain rfl : j = n := by omega
    refine ⟨c, hB, fun R hR => Ev.step (fun k => ?_) hR⟩
    conv => lhs; rw [teamsterref_Make.l4]
    rw [if_neg (by omega)]
  | succ d ih =>
    intro j hj c hB
    have hlt : j < n := by omega
    have hx : rd cur (j : Int) = at_ cur j := rfl
    -- the state stays
    have stay : Best cur gs v (j + 1) c → (∀ R : Res, Ev (fun k => teamsterref_Make.l4 k (n : Int) cur (v : Int) (ints gs) c ((j + 1 : Nat) : Int) g0 es) R → Ev (fun k => teamsterref_Make.l4 k (n : Int) cur (v : Int) (ints gs) c (j : Int) g0 es) R) → ∃ c', Best cur gs v n c' ∧ ∀ R : Res,
      Ev (fun k => if c' < 0 then (some (0, ([] : List S75), false)) else (if (ints gs).length < 17592186044416 then (if 0 ≤ (v : Int) then (if (v : Int) < (cur.length : Int) then (if es.length < 5864062014805 then (teamsterref_Make.l3 k (n : Int) (cur.set ((v : Int)).toNat (wrap64 ((rd cur (v : Int)) - 1))) (v : Int) (ints gs ++ [c']) g0 (es ++ [(⟨(v : Int), c', 0⟩ : S75)])) else (none)) else (none)) else (none)) else (none))) R →
      Ev (fun k => teamsterref_Make.l4 k (n : Int) cur (v : Int) (ints gs) c (j : Int) g0 es) R := fun hB' hstep => by
      obtain ⟨c', h1, h2⟩ := ih (j + 1) (by omega) c hB'
      exact ⟨c', h1, fun R hR => hstep R (h2 R hR)⟩
    by_cases hjv : j = v
    · refine stay ?_ fun R hR => Ev.step (fun k => ?_) hR
      · rcases hB with ⟨h1, h2⟩ | ⟨m, h1, h2, h3, h4, h5, h6⟩
        · exact .inl ⟨h1, fun i hi hv hg => h2 i (by omega) hv hg⟩
        · exact .inr ⟨m, h1, by omega, h3, h4, h5, fun i hi hv hg => h6 i (by omega) hv hg⟩
      · conv => lhs; rw [teamsterref_Make.l4]
        rw [if_pos (by omega), if_pos (by omega), wnext j (by omega)]
    · by_cases hjg : j ∈ gs
      · refine stay ?_ fun R hR => ?_
        · rcases hB with ⟨h1, h2⟩ | ⟨m, h1, h2, h3, h4, h5, h6⟩
          · exact .inl ⟨h1, fun i hi hv hg => h2 i (by
              rcases Nat.lt_succ_iff_lt_or_eq.1 hi with h | h
              · exact h
              · exact absurd (by rw [h]; exact hjg) hg) hv hg⟩
          · exact .inr ⟨m, h1, by omega, h3, h4, h5, fun i hi hv hg => h6 i (by
              rcases Nat.lt_succ_iff_lt_or_eq.1 hi with h | h
              · exact h
              · exact absurd (by rw [h]; exact hjg) hg) hv hg⟩
        · refine Ev.step (g := fun k => (teamsterref_Has.f k (ints gs) (j : Int)).bind fun t249 => if t249 = true then (teamsterref_Make.l4 k (n : Int) cur (v : Int) (ints gs) c (wrap64 ((j : Int) + 1)) g0 es) else (if 0 ≤ (j : Int) then (if (j : Int) < (cur.length : Int) then (if (rd cur (j : Int)) > 0 then (if c < 0 then (teamsterref_Make.l4 k (n : Int) cur (v : Int) (ints gs) (j : Int) (wrap64 ((j : Int) + 1)) g0 es) else (if 0 ≤ c then (if c < (cur.length : Int) then (if (rd cur (j : Int)) > (rd cur c) then (teamsterref_Make.l4 k (n : Int) cur (v : Int) (ints gs) (j : Int) (wrap64 ((j : Int) + 1)) g0 es) else (teamsterref_Make.l4 k (n : Int) cur (v : Int) (ints gs) c (wrap64 ((j : Int) + 1)) g0 es)) else (none)) else (none))) else (teamsterref_Make.l4 k (n : Int) cur (v : Int) (ints gs) c (wrap64 ((j : Int) + 1)) g0 es)) else (none)) else (none))) (fun k => ?_) (Ev.bind (has_is gs hg j) ?_)
          · conv => lhs; rw [teamsterref_Make.l4]
            rw [if_pos (by omega), if_neg (by omega)]
          · simp only [decide_eq_true hjg, if_true, wnext j (show j < 1000000 by omega)]
            exact hR
      · -- it may be a better one
        have hpass : ∀ (c1 : Int), (∀ k, (if 0 ≤ (j : Int) then (if (j : Int) < (cur.length : Int) then (if (rd cur (j : Int)) > 0 then (if c < 0 then (teamsterref_Make.l4 k (n : Int) cur (v : Int) (ints gs) (j : Int) (wrap64 ((j : Int) + 1)) g0 es) else (if 0 ≤ c then (if c < (cur.length : Int) then (if (rd cur (j : Int)) > (rd cur c) then (teamsterref_Make.l4 k (n : Int) cur (v : Int) (ints gs) (j : Int) (wrap64 ((j : Int) + 1)) g0 es) else (teamsterref_Make.l4 k (n : Int) cur (v : Int) (ints gs) c (wrap64 ((j : Int) + 1)) g0 es)) else (none)) else (none))) else (teamsterref_Make.l4 k (n : Int) cur (v : Int) (ints gs) c (wrap64 ((j : Int) + 1)) g0 es)) else (none)) else (none)) = teamsterref_Make.l4 k (n : Int) cur (v : Int) (ints gs) c1 ((j + 1 : Nat) : Int) g0 es) →
            Best cur gs v (j + 1) c1 → ∃ c', Best cur gs v n c' ∧ ∀ R : Res,
      Ev (fun k => if c' < 0 then (some (0, ([] : List S75), false)) else (if (ints gs).length < 17592186044416 then (if 0 ≤ (v : Int) then (if (v : Int) < (cur.length : Int) then (if es.length < 5864062014805 then (teamsterref_Make.l3 k (n : Int) (cur.set ((v : Int)).toNat (wrap64 ((rd cur (v : Int)) - 1))) (v : Int) (ints gs ++ [c']) g0 (es ++ [(⟨(v : Int), c', 0⟩ : S75)])) else (none)) else (none)) else (none)) else (none))) R →
      Ev (fun k => teamsterref_Make.l4 k (n : Int) cur (v : Int) (ints gs) c (j : Int) g0 es) R := fun c1 he hB1 => by
          obtain ⟨c', h1, h2⟩ := ih (j + 1) (by omega) c1 hB1
          refine ⟨c', h1, fun R hR => ?_⟩
          refine Ev.step (g := fun k => (teamsterref_Has.f k (ints gs) (j : Int)).bind fun t249 => if t249 = true then (teamsterref_Make.l4 k (n : Int) cur (v : Int) (ints gs) c (wrap64 ((j : Int) + 1)) g0 es) else teamsterref_Make.l4 k (n : Int) cur (v : Int) (ints gs) c1 ((j + 1 : Nat) : Int) g0 es) (fun k => ?_) (Ev.bind (has_is gs hg j) ?_)
          · conv => lhs; rw [teamsterref_Make.l4]
            rw [if_pos (by omega), if_neg (by omega), he k]
          · simp only [decide_eq_false hjg, Bool.false_eq_true, if_false]
            exact h2 R hR
        have split : ∀ i, i < j + 1 → i < j ∨ i = j := fun i hi => Nat.lt_succ_iff_lt_or_eq.1 hi
        by_cases hpos : at_ cur j > 0
        · rcases hB with ⟨h1, h2⟩ | ⟨m, h1, h2, h3, h4, h5, h6⟩
          · refine hpass j (fun k => ?_) (.inr ⟨j, rfl, by omega, hjv, hjg, hpos, fun i hi hv hg => ?_⟩)
            · rw [if_pos (by omega), if_pos (by omega), hx, if_pos hpos, if_pos (by omega), wnext j (by omega)]
            · rcases split i hi with h | h
              · have := h2 i h hv hg; omega
              · rw [h]; exact Int.le_refl _
          · subst h1
            have hxm : rd cur (m : Int) = at_ cur m := rfl
            by_cases hbet : at_ cur j > at_ cur m
            · refine hpass j (fun k => ?_) (.inr ⟨j, rfl, by omega, hjv, hjg, hpos, fun i hi hv hg => ?_⟩)
              · rw [if_pos (by omega), if_pos (by omega), hx, if_pos hpos, if_neg (by omega), if_pos (by omega), if_pos (by omega), hxm, if_pos hbet, wnext j (by omega)]
              · rcases split i hi with h | h
                · have := h6 i h hv hg; omega
                · rw [h]; exact Int.le_refl _
            · refine hpass m (fun k => ?_) (.inr ⟨m, rfl, by omega, h3, h4, h5, fun i hi hv hg => ?_⟩)
              · rw [if_pos (by omega), if_pos (by omega), hx, if_pos hpos, if_neg (by omega), if_pos (by omega), if_pos (by omega), hxm, if_neg hbet, wnext j (by omega)]
              · rcases split i hi with h | h
                · exact h6 i h hv hg
                · rw [h]; omega
        · refine hpass c (fun k => ?_) ?_
          · rw [if_pos (by omega), if_pos (by omega), hx, if_neg hpos, wnext j (by omega)]
          · rcases hB with ⟨h1, h2⟩ | ⟨m, h1, h2, h3, h4, h5, h6⟩
            · refine .inl ⟨h1, fun i hi hv hg => ?_⟩
              rcases split i hi with h | h
              · exact h2 i h hv hg
              · rw [h]; omega
            · refine .inr ⟨m, h1, by omega, h3, h4, h5, fun i hi hv hg => ?_⟩
              rcases split i hi with h | h
              · exact h6 i h hv hg
              · rw [h]; omega

theorem make_l2 {n : Nat} {need : List Int} (hc : need.length = n) (hn : n ≤ 10) (g0 : Int) (es : List S75) :
    ∀ d j, j + d = n → ∀ v, v < n → (∀ i, i < j → at_ need i ≤ at_ need v) → ∃ v', v' < n ∧ (∀ i, i < n → at_ need i ≤ at_ need v') ∧ ∀ R : Res,
      Ev (fun k => teamsterref_Make.j3 k (n : Int) need (v' : Int) (at_ need v' == 0) g0 es) R → Ev (fun k => teamsterref_Make.l2 k (n : Int) need (v : Int) (j : Int) g0 es) R := by
  intro d
  induction d with
  | zero =>
    intro j hj v hv hm
    obtain rfl : j = n := by omega
    refine ⟨v, hv, hm, fun R hR => Ev.step (fun k => ?_) hR⟩
    conv => lhs; rw [teamsterref_Make.l2]
    rw [if_neg (by omega), if_neg (by omega), if_pos (by omega), if_pos (by omega)]
    rfl
  | succ d ih =>
    intro j hj v hv hm
    have h1 : rd need (j : Int) = at_ need j := rfl
    have h2 : rd need (v : Int) = at_ need v := rfl
    by_cases hgt : at_ need j > at_ need v
    · obtain ⟨v', k1, k2, k3⟩ := ih (j + 1) (by omega) j (by omega) fun i hi => by
        rcases Nat.lt_succ_iff_lt_or_eq.1 hi with h | h
        · have := hm i h; omega
        · rw [h]; exact Int.le_refl _
      refine ⟨v', k1, k2, fun R hR => Ev.step (fun k => ?_) (k3 R hR)⟩
      conv => lhs; rw [teamsterref_Make.l2]
      rw [if_pos (by omega), if_pos (by omega), if_pos (by omega), if_pos (by omega), if_pos (by omega), h1, h2, if_pos hgt, wnext j (by omega)]
    · obtain ⟨v', k1, k2, k3⟩ := ih (j + 1) (by omega) v hv fun i hi => by
        rcases Nat.lt_succ_iff_lt_or_eq.1 hi with h | h
        · exact hm i h
        · rw [h]; omega
      refine ⟨v', k1, k2, fun R hR => Ev.step (fun k => ?_) (k3 R hR)⟩
      conv => lhs; rw [teamsterref_Make.l2]
      rw [if_pos (by omega), if_pos (by omega), if_pos (by omega), if_pos (by omega), if_pos (by omega), h1, h2, if_neg hgt, wnext j (by omega)]

theorem make_l5 {n : Nat} (gs : List Nat) (hgl : gs.length ≤ 1000) (hgn : ∀ x ∈ gs, x < n) (hnd : gs.Nodup) (g0 : Int) (es : List S75) :
    ∀ d p, p + d = gs.length → ∀ cur : List Int, cur.length = n → (∀ i, i < n → 0 ≤ at_ cur i ∧ at_ cur i ≤ 1000) → (∀ x ∈ gs.drop p, 1 ≤ at_ cur x) →
      ∃ cur', cur'.length = n ∧ (∀ i, i < n → at_ cur' i = at_ cur i - if i ∈ gs.drop p then 1 else 0) ∧ ∀ R : Res,
        Ev (fun k => teamsterref_Make.l1 k (n : Int) cur' g0 es) R → Ev (fun k => teamsterref_Make.l5 k (n : Int) cur (ints gs) ((ints gs).length : Int) (p : Int) g0 es) R := by
  intro d
  induction d with
  | zero =>
    intro p hp cur hc hb _
    have hpl := ints_len gs
    obtain rfl : p = gs.length := by omega
    refine ⟨cur, hc, fun i _ => by rw [List.drop_length]; simp, fun R hR => Ev.step (fun k => ?_) hR⟩
    conv => lhs; rw [teamsterref_Make.l5]
    rw [if_neg (by omega)]
  | succ d ih =>
    intro p hp cur hc hb hpos
    have hpl := ints_len gs
    have hlt : p < gs.length := by omega
    have hdrop : gs.drop p = gs[p] :: gs.drop (p + 1) := List.drop_eq_getElem_cons hlt
    have hx := hgn gs[p] (List.getElem_mem hlt)
    have hnd' : (gs[p] :: gs.drop (p + 1)).Nodup := by rw [← hdrop]; exact hnd.sublist (List.drop_sublist p gs)
    have hni := (List.nodup_cons.1 hnd').1
    rw [hdrop] at hpos
    have hxp := hpos gs[p] List.mem_cons_self
    have hxb := hb gs[p] hx
    generalize gs[p] = x at *
    have hset : ∀ i, at_ (cur.set x (at_ cur x - 1)) i = if x = i then at_ cur x - 1 else at_ cur i := fun i => at_set cur x i _ (by omega)
    obtain ⟨cur', h1, h2, h3⟩ := ih (p + 1) (by omega) (cur.set x (at_ cur x - 1)) (by rw [List.length_set, hc]) (fun i hi => by
      rw [hset]
      have := hb i hi
      split <;> omega) (fun y hy => by
      rw [hset, if_neg (fun e => hni (by rw [e]; exact hy))]
      exact hpos y (List.mem_cons_of_mem _ hy))
    refine ⟨cur', h1, fun i hi => ?_, fun R hR => Ev.step (fun k => ?_) (h3 R hR)⟩
    · rw [h2 i hi, hset, hdrop]
      by_cases e : x = i
      · subst e
        rw [if_pos rfl, if_neg hni, if_pos List.mem_cons_self]; omega
      · rw [if_neg e]
        have : i ∈ x :: gs.drop (p + 1) ↔ i ∈ gs.drop (p + 1) := by simp [Ne.symm e]
        by_cases hm : i ∈ gs.drop (p + 1)
        · rw [if_pos hm, if_pos (this.2 hm)]
        · rw [if_neg hm, if_neg fun h => hm (this.1 h)]
    · conv => lhs; rw [teamsterref_Make.l5]
      have hr : rd (ints gs) (p : Int) = (x : Int) := by
        rw [at_ints gs p hlt]
        have : gs.drop p = x :: gs.drop (p + 1) := hdrop
        have h4 := congrArg List.head? this
        rw [List.head?_drop, List.head?_cons, List.getElem?_eq_getElem hlt] at h4
        rw [Option.some.inj h4]
      have hrx : rd cur (x : Int) = at_ cur x := rfl
      rw [if_pos (by omega), if_pos (by omega), if_pos (by omega), hr, if_pos (by omega), if_pos (by omega), hrx, wnext p (by omega), w64 (by omega) (by omega), Int.toNat_natCast]

theorem cnt_list {n : Nat} {gs : List Nat} (hn : ∀ x ∈ gs, x < n) (hd : gs.Nodup) : cntR n (fun i => decide (i ∈ gs)) = gs.length := by
  induction gs with
  | nil => exact sumR_zero fun i _ => by simp
  | cons a gs ih =>
    have hd' := List.nodup_cons.1 hd
    have e : cntR n (fun i => decide (i ∈ a :: gs)) = sumR n (fun i => (if decide (i ∈ gs) = true then 1 else 0) + if i = a then 1 else 0) := sumR_congr fun i _ => by
      by_cases e : i = a
      · subst e; simp [hd'.1]
      · simp [e]
    have h := ih (fun x hx => hn x (List.mem_cons_of_mem _ hx)) hd'.2
    unfold cntR at h
    rw [e, sumR_add, sumR_at (hn a List.mem_cons_self), h, List.length_cons]
    omega

theorem make_l3 {n : Nat} {need : List Int} (_hc : need.length = n) (hn : n ≤ 10) (hb : ∀ i, i < n → 0 ≤ at_ need i ∧ at_ need i ≤ 1000) {v : Nat} (hv : v < n) (hmax : ∀ i, i < n → at_ need i ≤ at_ need v) (hpos : 0 < at_ need v) (g0 : Int)
    (main : ∀ need' : List Int, need'.length = n → (∀ i, i < n → 0 ≤ at_ need' i ∧ at_ need' i ≤ 1000) → sumR n (at_ need') < sumR n (at_ need) → ∀ es : List S75, es.length + (sumR n (at_ need')).toNat ≤ 20000 →
      ∃ r : Res, Ev (fun k => teamsterref_Make.l1 k (n : Int) need' g0 es) r ∧ (r.2.2 = true ↔ EG n (at_ need') ∧ sumR n (at_ need') % 2 = 0)) :
    ∀ (d : Nat) (gs : List Nat), (gs.length : Int) + (d : Int) = at_ need v → gs.Nodup → (∀ x ∈ gs, x < n ∧ x ≠ v ∧ 0 < at_ need x) → (∀ x ∈ gs, ∀ y, y < n → y ∉ gs → y ≠ v → at_ need y ≤ at_ need x) →
      ∀ cur : List Int, cur.length = n → (∀ i, i < n → at_ cur i = if i = v then at_ need v - gs.length else at_ need i) → ∀ es : List S75, es.length + ((sumR n (at_ need)).toNat - gs.length) ≤ 20000 →
      ∃ r : Res, Ev (fun k => teamsterref_Make.l3 k (n : Int) cur (v : Int) (ints gs) g0 es) r ∧ (r.2.2 = true ↔ EG n (at_ need) ∧ sumR n (at_ need) % 2 = 0) := by
  have hsumv : at_ need v ≤ sumR n (at_ need) := sumR_le_at hv fun i hi => (hb i hi).1
  intro d
  induction d with
  | zero =>
    intro gs hd hnd hin htop cur hcl hcur es hes
    have hxv : rd cur (v : Int) = at_ cur v := rfl
    have hbv := hb v hv
    have hcv : at_ cur v = 0 := by rw [hcur v hv, if_pos rfl]; omega
    obtain ⟨cur', h1, h2, h3⟩ := make_l5 (n := n) gs (by omega) (fun x hx => (hin x hx).1) hnd g0 es gs.length 0 (by omega) cur hcl (fun i hi => by
      rw [hcur i hi]; have := hb i hi; split <;> omega) (fun x hx => by
      rw [List.drop_zero] at hx
      have := hin x hx
      rw [hcur x this.1, if_neg this.2.1]; omega)
    rw [List.drop_zero] at h2
    have hvg : v ∉ gs := fun h => (hin v h).2.1 rfl
    have hstep : Step n (at_ need) (at_ cur') v (fun i => decide (i ∈ gs)) := {
      hv := hv
      zero := by rw [h2 v hv, hcv, if_neg hvg]; rfl
      tv := by simp [hvg]
      cnt := by rw [cnt_list (fun x hx => (hin x hx).1) hnd]; omega
      less := fun i hi hiv => by
        rw [h2 i hi, hcur i hi, if_neg hiv]
        simp
      pos := fun i hi hT => by have := hin i (by simpa using hT); omega
      nonneg := fun i hi => (hb i hi).1 }
    have hsum : sumR n (at_ need) = sumR n (at_ cur') + at_ need v + at_ need v := by
      have e : sumR n (at_ need) = sumR n (fun i => at_ cur' i + ((if decide (i ∈ gs) = true then 1 else 0) + if i = v then at_ need v else 0)) := sumR_congr fun i hi => by
        by_cases e : i = v
        · subst e; rw [hstep.zero]; simp [hvg]
        · have := hstep.less i hi e
          rw [if_neg e]; omega
      rw [e, sumR_add, sumR_add, sumR_at hv]
      have : sumR n (fun i => if decide (i ∈ gs) = true then (1 : Int) else 0) = at_ need v := hstep.cnt
      omega
    have hn' := hstep.nonneg'
    have hs0 : 0 ≤ sumR n (at_ cur') := sumR_nonneg hn'
    obtain ⟨r, k1, k2⟩ := main cur' h1 (fun i hi => by
      refine ⟨hn' i hi, ?_⟩
      by_cases e : i = v
      · rw [e, hstep.zero]; omega
      · rw [hstep.less i hi e]; have := hb i hi; split <;> omega) (by omega) es (by omega)
    refine ⟨r, Ev.step (fun k => ?_) (h3 r k1), ?_⟩
    · conv => lhs; rw [teamsterref_Make.l3]
      rw [if_pos (by omega), if_pos (by omega), hxv, if_neg (by omega)]
      rfl
    · rw [k2]
      have hpar : sumR n (at_ cur') % 2 = 0 ↔ sumR n (at_ need) % 2 = 0 := by omega
      constructor
      · rintro ⟨a, b⟩
        exact ⟨step_up hstep a, hpar.1 b⟩
      · rintro ⟨a, b⟩
        refine ⟨step_down hstep hmax (fun x y hx hy hTx hTy hyv => htop x (by simpa using hTx) y hy (by simpa using hTy) hyv) b a, hpar.2 b⟩
  | succ d ih =>
    intro gs hd hnd hin htop cur hcl hcur es hes
    have hxv : rd cur (v : Int) = at_ cur v := rfl
    have hbv := hb v hv
    have hcv : at_ cur v = at_ need v - gs.length := by rw [hcur v hv, if_pos rfl]
    obtain ⟨c', hB, hgo⟩ := make_l4 hcl hn gs (by omega) v g0 es n 0 (by omega) (-1) (.inl ⟨rfl, fun i hi => by omega⟩)
    have enter : ∀ R : Res, Ev (fun k => if c' < 0 then (some (0, ([] : List S75), false)) else (if (ints gs).length < 17592186044416 then (if 0 ≤ (v : Int) then (if (v : Int) < (cur.length : Int) then (if es.length < 5864062014805 then (teamsterref_Make.l3 k (n : Int) (cur.set ((v : Int)).toNat (wrap64 ((rd cur (v : Int)) - 1))) (v : Int) (ints gs ++ [c']) g0 (es ++ [(⟨(v : Int), c', 0⟩ : S75)])) else (none)) else (none)) else (none)) else (none))) R →
        Ev (fun k => teamsterref_Make.l3 k (n : Int) cur (v : Int) (ints gs) g0 es) R := fun R hR => by
      refine Ev.step (fun k => ?_) (hgo R hR)
      conv => lhs; rw [teamsterref_Make.l3]
      rw [if_pos (by omega), if_pos (by omega), hxv, if_pos (by omega)]
      rfl
    rcases hB with ⟨h1, h2⟩ | ⟨m, rfl, h2, h3, h4, h5, h6⟩
    · refine ⟨(0, [], false), enter _ (.of_eq fun k => by rw [if_pos (by omega)]), ?_⟩
      constructor
      · intro h; cases h
      · rintro ⟨hE, _⟩
        exact absurd hE (eg_short (T := fun i => decide (i ∈ gs)) hv (by rw [cnt_list (fun x hx => (hin x hx).1) hnd]; omega) fun i hi hiv hT => by
          have := h2 i hi hiv (by simpa using hT)
          rw [hcur i hi, if_neg hiv] at this; exact this)
    · have hm : at_ cur m = at_ need m := by rw [hcur m h2, if_neg h3]
      have hil := ints_len gs
      have hlen : (ints gs).length < 17592186044416 := by omega
      obtain ⟨r, k1, k2⟩ := ih (gs ++ [m]) (by rw [List.length_append, List.length_singleton]; omega)
        (List.nodup_append.2 ⟨hnd, by simp, fun a ha b hb2 => by
          rw [List.mem_singleton] at hb2; subst hb2; rintro rfl; exact h4 ha⟩)
        (fun x hx => by
          rcases List.mem_append.1 hx with h | h
          · exact hin x h
          · rw [List.mem_singleton] at h; subst h; exact ⟨h2, h3, by omega⟩)
        (fun x hx y hy hyg hyv => by
          have hyg' : y ∉ gs := fun h => hyg (List.mem_append_left _ h)
          rcases List.mem_append.1 hx with h | h
          · exact htop x h y hy hyg' hyv
          · rw [List.mem_singleton] at h; subst h
            have := h6 y hy hyv hyg'
            rw [hcur y hy, if_neg hyv] at this; omega)
        (cur.set v (at_ cur v - 1)) (by rw [List.length_set, hcl])
        (fun i hi => by
          rw [at_set _ _ _ _ (by omega), List.length_append, List.length_singleton]
          by_cases e : v = i
          · subst e; rw [if_pos rfl, if_pos rfl, hcv]; omega
          · rw [if_neg e, if_neg (Ne.symm e), hcur i hi, if_neg (Ne.symm e)])
        (es ++ [(⟨(v : Int), (m : Int), 0⟩ : S75)]) (by simp only [List.length_append, List.length_singleton]; omega)
      refine ⟨r, enter r (Ev.congr (fun k => ?_) k1), k2⟩
      rw [if_neg (by omega), if_pos hlen, if_pos (by omega), if_pos (by omega), if_pos (by omega), Int.toNat_natCast, hxv, w64 (by omega) (by omega)]
      congr 1
      simp [ints]

theorem eg_zero {n : Nat} {d : Nat → Int} (h : ∀ i, i < n → d i = 0) : EG n d := by
  intro S hV
  unfold Viol at hV
  have e1 : inS n S d = 0 := sumR_zero fun i hi => by rw [h i hi]; split <;> rfl
  have hc := cntR_nonneg n S
  have e2 : 0 ≤ outS n S d (cntR n S) := sumR_nonneg fun i hi => by rw [h i hi]; split <;> omega
  have e3 : 0 ≤ cntR n S * (cntR n S - 1) := by
    rcases Int.lt_or_le 0 (cntR n S) with h0 | h0
    · exact Int.mul_nonneg hc (by omega)
    · rw [show cntR n S = 0 by omega]; exact Int.le_refl _
  omega

theorem make_l1 {n : Nat} (hn : n ≤ 10) (g0 : Int) : ∀ (m : Nat) (need : List Int), need.length = n → (∀ i, i < n → 0 ≤ at_ need i ∧ at_ need i ≤ 1000) → (sumR n (at_ need)).toNat ≤ m → ∀ es : List S75, es.length + (sumR n (at_ need)).toNat ≤ 20000 →
    ∃ r : Res, Ev (fun k => teamsterref_Make.l1 k (n : Int) need g0 es) r ∧ (r.2.2 = true ↔ EG n (at_ need) ∧ sumR n (at_ need) % 2 = 0) := by
  intro m
  induction m using Nat.strongRecOn with
  | _ m ih =>
    intro need hc hb hm es hes
    by_cases h0 : n = 0
    · subst h0
      refine ⟨(g0, es, true), ?_, ?_⟩
      · refine Ev.step (g := fun k => teamsterref_Make.l2 k ((0 : Nat) : Int) need 0 0 g0 es) (fun k => by rw [teamsterref_Make.l1]) (Ev.step (g := fun k => teamsterref_Make.j3 k ((0 : Nat) : Int) need 0 true g0 es) (fun k => ?_) (Ev.step (g := fun _ => some (g0, es, true)) (fun k => ?_) (.const _)))
        · conv => lhs; rw [teamsterref_Make.l2]
          rw [if_neg (by omega), if_pos (by omega)]
        · rw [teamsterref_Make.j3, if_pos rfl]
      · exact ⟨fun _ => ⟨eg_zero fun i hi => by omega, rfl⟩, fun _ => rfl⟩
    · obtain ⟨v, h1, h2, h3⟩ := make_l2 hc hn g0 es n 0 (by omega) 0 (by omega) (fun i hi => by omega)
      have enter : ∀ R : Res, Ev (fun k => teamsterref_Make.j3 k (n : Int) need (v : Int) (at_ need v == 0) g0 es) R → Ev (fun k => teamsterref_Make.l1 k (n : Int) need g0 es) R := fun R hR =>
        Ev.step (fun k => by rw [teamsterref_Make.l1]; rfl) (h3 R hR)
      have hbv := hb v h1
      by_cases hz : at_ need v = 0
      · have hall : ∀ i, i < n → at_ need i = 0 := fun i hi => by have := h2 i hi; have := hb i hi; omega
        refine ⟨(g0, es, true), enter _ (Ev.step (g := fun _ => some (g0, es, true)) (fun k => ?_) (.const _)), fun _ => ⟨eg_zero hall, by rw [sumR_zero hall]; rfl⟩, fun _ => rfl⟩
        rw [hz, teamsterref_Make.j3]; rfl
      · have hs0 : 0 ≤ sumR n (at_ need) := sumR_nonneg fun i hi => (hb i hi).1
        have hsv : at_ need v ≤ sumR n (at_ need) := sumR_le_at h1 fun i hi => (hb i hi).1
        obtain ⟨r, k1, k2⟩ := make_l3 hc hn hb h1 h2 (by omega) g0 (fun need' a b c es' d => ih ((sumR n (at_ need')).toNat) (by
            have : 0 ≤ sumR n (at_ need') := sumR_nonneg fun i hi => (b i hi).1
            omega) need' a b (Nat.le_refl _) es' d) (at_ need v).toNat [] (by simp; omega) List.nodup_nil (by simp) (by simp) need hc (fun i hi => by
            by_cases e : i = v
            · subst e; simp
            · rw [if_neg e]) es (by simpa using hes)
        refine ⟨r, enter r (Ev.step (fun k => ?_) k1), k2⟩
        conv => lhs; rw [teamsterref_Make.j3]
        rw [if_neg (by simpa using hz)]
        rfl

theorem make_is (l : List Int) (hl : l.length ≤ 10) : ∃ r : Res, Ev (fun k => teamsterref_Make.f k l) r ∧ (r.2.2 = true ↔ (∀ p, p < l.length → 0 ≤ at_ l p ∧ at_ l p < l.length) ∧ EG l.length (at_ l) ∧ sumR l.length (at_ l) % 2 = 0) := by
  have start : ∀ r : Res, Ev (fun k => teamsterref_Make.l0 k (l.length : Int) l l (l.length : Int) 0 (l.length : Int)) r → Ev (fun k => teamsterref_Make.f k l) r := fun r hr => by
    refine Ev.congr (fun k => ?_) hr
    unfold teamsterref_Make.f
    rw [Option.bind_some, if_pos (by simp; omega)]
    rfl
  have scan : ∀ d i, i + d = l.length → (∀ p, p < i → 0 ≤ at_ l p ∧ at_ l p < l.length) → ∃ r : Res, Ev (fun k => teamsterref_Make.l0 k (l.length : Int) l l (l.length : Int) (i : Int) (l.length : Int)) r ∧ (r.2.2 = true ↔ (∀ p, p < l.length → 0 ≤ at_ l p ∧ at_ l p < l.length) ∧ EG l.length (at_ l) ∧ sumR l.length (at_ l) % 2 = 0) := by
    intro d
    induction d with
    | zero =>
      intro i hi hr
      obtain rfl : i = l.length := by omega
      have hs := sum_bound hr hl l.length (Nat.le_refl _)
      obtain ⟨r, k1, k2⟩ := make_l1 (n := l.length) hl (l.length : Int) _ l rfl (fun i hi => by have := hr i hi; omega) (Nat.le_refl _) [] (by simp; omega)
      refine ⟨r, Ev.step (fun k => ?_) k1, ?_⟩
      · conv => lhs; rw [teamsterref_Make.l0]
        rw [if_neg (by omega)]
      · rw [k2]
        exact ⟨fun h => ⟨hr, h⟩, fun h => h.2⟩
    | succ d ih =>
      intro i hi hr
      have hx : rd l (i : Int) = at_ l i := rfl
      by_cases hbad : at_ l i < 0 ∨ at_ l i ≥ l.length
      · refine ⟨(0, [], false), Ev.step (g := fun _ => some (0, [], false)) (fun k => ?_) (.const _), ?_⟩
        · rw [teamsterref_Make.l0, if_pos (by omega), if_pos (by omega), if_pos (by omega), hx]
          by_cases h0 : at_ l i < 0
          · rw [if_pos h0]
          · rw [if_neg h0, if_pos (by omega)]
        · constructor
          · intro h; cases h
          · rintro ⟨h, _⟩
            have := h i (by omega); omega
      · obtain ⟨r, k1, k2⟩ := ih (i + 1) (by omega) fun p hp => by
          rcases Nat.lt_succ_iff_lt_or_eq.1 hp with h | h
          · exact hr p h
          · rw [h]; omega
        refine ⟨r, Ev.step (fun k => ?_) k1, k2⟩
        conv => lhs; rw [teamsterref_Make.l0]
        rw [if_pos (by omega), if_pos (by omega), if_pos (by omega), hx, if_neg (by omega), if_neg (by omega), wnext i (by omega)]
  obtain ⟨r, k1, k2⟩ := scan l.length 0 (by omega) fun p hp => by omega
  exact ⟨r, start r k1, k2⟩

end Go.Proofs.Ytoblkmbmacimiaa.L
