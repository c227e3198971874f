/- Plain: the steps of Havel and Hakimi, one after the other: what the reference's Make comes to, edge by edge. -/
import Derived.Test.YtoblkmbmacimiaaMake
namespace Go.Proofs.Ytoblkmbmacimiaa.L
open Go Go.RowKit Go.Proofs.YtoblkmbmacimiaaW.PrintWords Go.Proofs.YtoblkmbmacimiaaW.PrintMore Go.Proofs.Ytoblkmbmacimiaa.G

theorem wnext2 (i : Nat) (h : i < 1000000000000) : wrap64 ((i : Int) + 1) = ((i + 1 : Nat) : Int) := by unfold wrap64; omega

/-- The first one of the largest. -/
def FirstMax (n : Nat) (need : Nat → Int) (v : Nat) : Prop := v < n ∧ (∀ i, i < n → need i ≤ need v) ∧ ∀ i, i < v → need i < need v
/-- The first one of the largest, besides v and some that are taken. -/
def FirstRest (n : Nat) (need : Nat → Int) (v : Nat) (gs : List Nat) (m : Nat) : Prop :=
  m < n ∧ m ≠ v ∧ m ∉ gs ∧ (∀ i, i < n → i ≠ v → i ∉ gs → need i ≤ need m) ∧ ∀ i, i < m → i ≠ v → i ∉ gs → need i < need m
inductive Ch (n : Nat) (need : Nat → Int) (v : Nat) : List Nat → Prop
  | nil : Ch n need v []
  | snoc {gs : List Nat} {m : Nat} : Ch n need v gs → FirstRest n need v gs m → 0 < need m → Ch n need v (gs ++ [m])

theorem Ch.facts {n : Nat} {need : Nat → Int} {v : Nat} {gs : List Nat} (h : Ch n need v gs) : gs.Nodup ∧ ∀ x ∈ gs, x < n ∧ x ≠ v ∧ 0 < need x := by
  induction h with
  | nil => exact ⟨List.nodup_nil, fun x hx => by cases hx⟩
  | @snoc gs m _ hf hp ih =>
    refine ⟨List.nodup_append.2 ⟨ih.1, by simp, fun a ha b hb2 => by
      rw [List.mem_singleton] at hb2; subst hb2; rintro rfl; exact hf.2.2.1 ha⟩, fun x hx => ?_⟩
    rcases List.mem_append.1 hx with h | h
    · exact ih.2 x h
    · rw [List.mem_singleton] at h; subst h; exact ⟨hf.1, hf.2.1, hp⟩
theorem Ch.short {n : Nat} {need : Nat → Int} {v : Nat} {gs : List Nat} (hv : v < n) (h : Ch n need v gs) : gs.length < n := by
  have hf := h.facts
  have h1 : sumR n (fun i => if decide (i ∈ gs) = true then (1 : Int) else 0) = gs.length := cnt_list (n := n) (fun x hx => (hf.2 x hx).1) hf.1
  have h2 := sumR_mono (n := n) (f := fun i => (if decide (i ∈ gs) = true then 1 else 0) + if i = v then 1 else 0) (g := fun _ => 1) fun i _ => by
    by_cases e : i = v
    · subst e
      have : i ∉ gs := fun hh => (hf.2 i hh).2.1 rfl
      simp [this]
    · simp [e]; split <;> omega
  rw [sumR_add, sumR_at hv, sumR_const, h1] at h2
  omega

def edges (v : Nat) (gs : List Nat) : List S75 := List.map (fun m : Nat => (⟨(v : Int), (m : Int), 0⟩ : S75)) gs
/-- What is left when v and its neighbours have their edge. -/
def after (need : Nat → Int) (v : Nat) (gs : List Nat) (i : Nat) : Int := if i = v then 0 else need i - if i ∈ gs then 1 else 0

inductive Run (n : Nat) : (Nat → Int) → List S75 → Option (List S75) → Prop
  | done {need : Nat → Int} {es : List S75} : (∀ i, i < n → need i = 0) → Run n need es (some es)
  | stuck {need : Nat → Int} {es : List S75} {v : Nat} {gs : List Nat} : FirstMax n need v → Ch n need v gs → (gs.length : Int) < need v → (∀ i, i < n → i ≠ v → i ∉ gs → need i ≤ 0) → Run n need es none
  | step {need : Nat → Int} {es : List S75} {v : Nat} {gs : List Nat} {r : Option (List S75)} : FirstMax n need v → 0 < need v → Ch n need v gs → (gs.length : Int) = need v → Run n (after need v gs) (es ++ edges v gs) r → Run n need es r

def resOf (n : Nat) : Option (List S75) → Res
  | some es => ((n : Int), es, true)
  | none => (0, [], false)

/-! ### The reference follows a run -/
def BestF (cur : List Int) (gs : List Nat) (v j : Nat) (c : Int) : Prop :=
  (c = -1 ∧ ∀ i, i < j → i ≠ v → i ∉ gs → at_ cur i ≤ 0) ∨
  ∃ m : Nat, c = m ∧ m < j ∧ m ≠ v ∧ m ∉ gs ∧ 0 < at_ cur m ∧ (∀ i, i < j → i ≠ v → i ∉ gs → at_ cur i ≤ at_ cur m) ∧ ∀ i, i < m → i ≠ v → i ∉ gs → at_ cur i < at_ cur m

abbrev l4After (n : Nat) (cur : List Int) (gs : List Nat) (v : Nat) (g0 : Int) (es : List S75) (c' : Int) (k : Nat) : Option Res :=
  if c' < 0 then (some (0, ([] : List S75), false)) else (if (ints gs).length < 17592186044416 then (if 0 ≤ (v : Int) then (if (v : Int) < (cur.length : Int) then (if es.length < 5864062014805 then (teamsterref_Make.l3 k (n : Int) (cur.set ((v : Int)).toNat (wrap64 ((rd cur (v : Int)) - 1))) (v : Int) (ints gs ++ [c']) g0 (es ++ [(⟨(v : Int), c', 0⟩ : S75)])) else (none)) else (none)) else (none)) else (none))

theorem has_is2 (gs : List Nat) (hl : gs.length ≤ 1000000000) (j : Nat) : Ev (fun k => teamsterref_Has.f k (ints gs) (j : Int)) (decide (j ∈ gs)) := by
  have key : ∀ d p, p + d = gs.length → Ev (fun k => teamsterref_Has.l0 k (j : Int) (ints gs) ((ints gs).length : Int) (p : Int)) (decide (j ∈ gs.drop p)) := by
    intro d
    induction d with
    | zero =>
      intro p hp
      have hpl := ints_len gs
      obtain rfl : p = gs.length := by omega
      rw [List.drop_length]
      refine Ev.step (g := fun _ => some false) (fun k => ?_) (.const _)
      rw [teamsterref_Has.l0, if_neg (by omega)]
    | succ d ih =>
      intro p hp
      have hpl := ints_len gs
      have hlt : p < gs.length := by omega
      rw [List.drop_eq_getElem_cons hlt]
      by_cases e : j = gs[p]
      · rw [decide_eq_true (by rw [← e]; exact List.mem_cons_self)]
        refine Ev.step (g := fun _ => some true) (fun k => ?_) (.const _)
        rw [teamsterref_Has.l0, if_pos (by omega), if_pos (by omega), if_pos (by omega), at_ints gs p hlt, if_pos (by omega)]
      · have : decide (j ∈ gs[p] :: gs.drop (p + 1)) = decide (j ∈ gs.drop (p + 1)) := decide_eq_decide.2 (by rw [List.mem_cons]; exact ⟨fun h => h.resolve_left e, .inr⟩)
        rw [this]
        refine Ev.step (fun k => ?_) (ih (p + 1) (by omega))
        conv => lhs; rw [teamsterref_Has.l0]
        rw [if_pos (by omega), if_pos (by omega), if_pos (by omega), at_ints gs p hlt, if_neg (by omega), wnext2 p (by omega)]
  exact key gs.length 0 (by omega)

theorem run_l4 {n : Nat} {cur : List Int} (hc : cur.length = n) (hn : n ≤ 1100000) (gs : List Nat) (hg : gs.length ≤ 1000000000) (v : Nat) (g0 : Int) (es : List S75) :
    ∀ d j, j + d = n → ∀ c, BestF cur gs v j c → ∃ c', BestF cur gs v n c' ∧ ∀ R : Res, Ev (fun k => l4After n cur gs v g0 es c' k) R →
      Ev (fun k => teamsterref_Make.l4 k (n : Int) cur (v : Int) (ints gs) c (j : Int) g0 es) R := by
  intro d
  induction d with
  | zero =>
    intro j hj c hB
    obtain rfl : j = n := by omega
    refine ⟨c, hB, fun R hR => Ev.step (fun k => ?_) hR⟩
    conv => lhs; rw [teamsterref_Make.l4]
    rw [if_neg (by omega)]
  | succ d ih =>
    intro j hj c hB
    have hlt : j < n := by omega
    have hx : rd cur (j : Int) = at_ cur j := rfl
    have split : ∀ i, i < j + 1 → i < j ∨ i = j := fun i hi => Nat.lt_succ_iff_lt_or_eq.1 hi
    -- as it was, where j does not count
    have keep : (j = v ∨ j ∈ gs ∨ (at_ cur j ≤ 0) ∨ ∃ m : Nat, c = m ∧ m < j ∧ at_ cur j ≤ at_ cur m) → BestF cur gs v (j + 1) c := fun hno => by
      rcases hB with ⟨h1, h2⟩ | ⟨m, h1, h2, h3, h4, h5, h6, h7⟩
      · refine .inl ⟨h1, fun i hi hv hgi => ?_⟩
        rcases split i hi with h | h
        · exact h2 i h hv hgi
        · subst h
          rcases hno with h | h | h | ⟨m, h, _⟩
          · exact absurd h hv
          · exact absurd h hgi
          · exact h
          · omega
      · refine .inr ⟨m, h1, by omega, h3, h4, h5, fun i hi hv hgi => ?_, h7⟩
        rcases split i hi with h | h
        · exact h6 i h hv hgi
        · subst h
          rcases hno with h | h | h | ⟨m', e, h, h'⟩
          · exact absurd h hv
          · exact absurd h hgi
          · omega
          · have : m = m' := by omega
            subst this; exact h'
    have pass : ∀ c1, BestF cur gs v (j + 1) c1 → (∀ R : Res, Ev (fun k => teamsterref_Make.l4 k (n : Int) cur (v : Int) (ints gs) c1 ((j + 1 : Nat) : Int) g0 es) R → Ev (fun k => teamsterref_Make.l4 k (n : Int) cur (v : Int) (ints gs) c (j : Int) g0 es) R) →
        ∃ c', BestF cur gs v n c' ∧ ∀ R : Res, Ev (fun k => l4After n cur gs v g0 es c' k) R → Ev (fun k => teamsterref_Make.l4 k (n : Int) cur (v : Int) (ints gs) c (j : Int) g0 es) R := fun c1 hB1 hstep => by
      obtain ⟨c', h1, h2⟩ := ih (j + 1) (by omega) c1 hB1
      exact ⟨c', h1, fun R hR => hstep R (h2 R hR)⟩
    by_cases hjv : j = v
    · refine pass c (keep (.inl hjv)) fun R hR => Ev.step (fun k => ?_) hR
      conv => lhs; rw [teamsterref_Make.l4]
      rw [if_pos (by omega), if_pos (by omega), wnext2 j (by omega)]
    · -- the question whether it is taken
      have ask : ∀ (R : Res) (B : Nat → Option Res), (∀ k, B k = (if 0 ≤ (j : Int) then (if (j : Int) < (cur.length : Int) then (if (rd cur (j : Int)) > 0 then (if c < 0 then (teamsterref_Make.l4 k (n : Int) cur (v : Int) (ints gs) (j : Int) (wrap64 ((j : Int) + 1)) g0 es) else (if 0 ≤ c then (if c < (cur.length : Int) then (if (rd cur (j : Int)) > (rd cur c) then (teamsterref_Make.l4 k (n : Int) cur (v : Int) (ints gs) (j : Int) (wrap64 ((j : Int) + 1)) g0 es) else (teamsterref_Make.l4 k (n : Int) cur (v : Int) (ints gs) c (wrap64 ((j : Int) + 1)) g0 es)) else (none)) else (none))) else (teamsterref_Make.l4 k (n : Int) cur (v : Int) (ints gs) c (wrap64 ((j : Int) + 1)) g0 es)) else (none)) else (none))) →
          Ev (fun k => if decide (j ∈ gs) = true then teamsterref_Make.l4 k (n : Int) cur (v : Int) (ints gs) c (wrap64 ((j : Int) + 1)) g0 es else B k) R → Ev (fun k => teamsterref_Make.l4 k (n : Int) cur (v : Int) (ints gs) c (j : Int) g0 es) R := fun R B hBk hR => by
        refine Ev.step (g := fun k => (teamsterref_Has.f k (ints gs) (j : Int)).bind fun t249 => if t249 = true then teamsterref_Make.l4 k (n : Int) cur (v : Int) (ints gs) c (wrap64 ((j : Int) + 1)) g0 es else B k) (fun k => ?_) (Ev.bind (has_is2 gs hg j) hR)
        conv => lhs; rw [teamsterref_Make.l4]
        rw [if_pos (by omega), if_neg (by omega), hBk k]
      by_cases hjg : j ∈ gs
      · refine pass c (keep (.inr (.inl hjg))) fun R hR => ask R _ (fun k => rfl) ?_
        simp only [decide_eq_true hjg, if_true, wnext2 j (show j < 1000000000000 by omega)]
        exact hR
      · have go : ∀ c1, BestF cur gs v (j + 1) c1 → (∀ k, (if 0 ≤ (j : Int) then (if (j : Int) < (cur.length : Int) then (if (rd cur (j : Int)) > 0 then (if c < 0 then (teamsterref_Make.l4 k (n : Int) cur (v : Int) (ints gs) (j : Int) (wrap64 ((j : Int) + 1)) g0 es) else (if 0 ≤ c then (if c < (cur.length : Int) then (if (rd cur (j : Int)) > (rd cur c) then (teamsterref_Make.l4 k (n : Int) cur (v : Int) (ints gs) (j : Int) (wrap64 ((j : Int) + 1)) g0 es) else (teamsterref_Make.l4 k (n : Int) cur (v : Int) (ints gs) c (wrap64 ((j : Int) + 1)) g0 es)) else (none)) else (none))) else (teamsterref_Make.l4 k (n : Int) cur (v : Int) (ints gs) c (wrap64 ((j : Int) + 1)) g0 es)) else (none)) else (none)) = teamsterref_Make.l4 k (n : Int) cur (v : Int) (ints gs) c1 ((j + 1 : Nat) : Int) g0 es) →
            ∃ c', BestF cur gs v n c' ∧ ∀ R : Res, Ev (fun k => l4After n cur gs v g0 es c' k) R → Ev (fun k => teamsterref_Make.l4 k (n : Int) cur (v : Int) (ints gs) c (j : Int) g0 es) R := fun c1 hB1 he => by
          refine pass c1 hB1 fun R hR => ask R (fun k => teamsterref_Make.l4 k (n : Int) cur (v : Int) (ints gs) c1 ((j + 1 : Nat) : Int) g0 es) (fun k => (he k).symm) ?_
          simp only [decide_eq_false hjg, Bool.false_eq_true, if_false]
          exact hR
        by_cases hpos : at_ cur j > 0
        · rcases hB with ⟨h1, h2⟩ | ⟨m, h1, h2, h3, h4, h5, h6, h7⟩
          · refine go j (.inr ⟨j, rfl, by omega, hjv, hjg, hpos, fun i hi hv hgi => ?_, fun i hi hv hgi => ?_⟩) fun k => ?_
            · rcases split i hi with h | h
              · have := h2 i h hv hgi; omega
              · rw [h]; exact Int.le_refl _
            · have := h2 i hi hv hgi; omega
            · rw [if_pos (by omega), if_pos (by omega), hx, if_pos hpos, if_pos (by omega), wnext2 j (by omega)]
          · have hxm : rd cur (m : Int) = at_ cur m := rfl
            by_cases hbet : at_ cur j > at_ cur m
            · refine go j (.inr ⟨j, rfl, by omega, hjv, hjg, hpos, fun i hi hv hgi => ?_, fun i hi hv hgi => ?_⟩) fun k => ?_
              · rcases split i hi with h | h
                · have := h6 i h hv hgi; omega
                · rw [h]; exact Int.le_refl _
              · have := h6 i hi hv hgi; omega
              · rw [if_pos (by omega), if_pos (by omega), hx, if_pos hpos, if_neg (by omega), if_pos (by omega), if_pos (by omega), h1, hxm, if_pos hbet, wnext2 j (by omega)]
            · refine go c (keep (.inr (.inr (.inr ⟨m, h1, h2, by omega⟩)))) fun k => ?_
              rw [if_pos (by omega), if_pos (by omega), hx, if_pos hpos, if_neg (by omega), if_pos (by omega), if_pos (by omega), h1, hxm, if_neg hbet, wnext2 j (by omega)]
        · refine go c (keep (.inr (.inr (.inl (by omega))))) fun k => ?_
          rw [if_pos (by omega), if_pos (by omega), hx, if_neg hpos, wnext2 j (by omega)]

theorem run_l2 {n : Nat} {need : List Int} (hc : need.length = n) (hn : n ≤ 1100000) (g0 : Int) (es : List S75) {w : Nat} (hw : FirstMax n (at_ need) w) (R : Res)
    (hR : Ev (fun k => teamsterref_Make.j3 k (n : Int) need (w : Int) (at_ need w == 0) g0 es) R) :
    ∀ d j, j + d = n → ∀ v, v < n → (∀ i, i < j → at_ need i ≤ at_ need v) → (∀ i, i < v → at_ need i < at_ need v) → Ev (fun k => teamsterref_Make.l2 k (n : Int) need (v : Int) (j : Int) g0 es) R := by
  intro d
  induction d with
  | zero =>
    intro j hj v hv hm hf
    obtain rfl : j = n := by omega
    have e : v = w := by
      rcases Nat.lt_trichotomy v w with h | h | h
      · have := hw.2.2 v h; have := hm w hw.1; omega
      · exact h
      · have := hf w h; have := hw.2.1 v hv; omega
    subst e
    refine Ev.step (fun k => ?_) hR
    conv => lhs; rw [teamsterref_Make.l2]
    rw [if_neg (by omega), if_neg (by omega), if_pos (by omega), if_pos (by omega)]
    rfl
  | succ d ih =>
    intro j hj v hv hm hf
    have h1 : rd need (j : Int) = at_ need j := rfl
    have h2 : rd need (v : Int) = at_ need v := rfl
    by_cases hgt : at_ need j > at_ need v
    · refine Ev.step (fun k => ?_) (ih (j + 1) (by omega) j (by omega) (fun i hi => by
        rcases Nat.lt_succ_iff_lt_or_eq.1 hi with h | h
        · have := hm i h; omega
        · rw [h]; exact Int.le_refl _) fun i hi => by have := hm i hi; omega)
      conv => lhs; rw [teamsterref_Make.l2]
      rw [if_pos (by omega), if_pos (by omega), if_pos (by omega), if_pos (by omega), if_pos (by omega), h1, h2, if_pos hgt, wnext2 j (by omega)]
    · refine Ev.step (fun k => ?_) (ih (j + 1) (by omega) v hv (fun i hi => by
        rcases Nat.lt_succ_iff_lt_or_eq.1 hi with h | h
        · exact hm i h
        · rw [h]; omega) hf)
      conv => lhs; rw [teamsterref_Make.l2]
      rw [if_pos (by omega), if_pos (by omega), if_pos (by omega), if_pos (by omega), if_pos (by omega), h1, h2, if_neg hgt, wnext2 j (by omega)]

theorem run_l5 {n : Nat} (gs : List Nat) (hgl : gs.length ≤ 1100000) (hgn : ∀ x ∈ gs, x < n) (hnd : gs.Nodup) (g0 : Int) (es : List S75) (R : Res) :
    ∀ d p, p + d = gs.length → ∀ cur : List Int, cur.length = n → (∀ i, i < n → 0 ≤ at_ cur i ∧ at_ cur i ≤ 1100000) → (∀ x ∈ gs.drop p, 1 ≤ at_ cur x) →
      (∀ cur' : List Int, cur'.length = n → (∀ i, i < n → at_ cur' i = at_ cur i - if i ∈ gs.drop p then 1 else 0) → Ev (fun k => teamsterref_Make.l1 k (n : Int) cur' g0 es) R) → Ev (fun k => teamsterref_Make.l5 k (n : Int) cur (ints gs) ((ints gs).length : Int) (p : Int) g0 es) R := by
  intro d
  induction d with
  | zero =>
    intro p hp cur hc hb _ hR
    have hpl := ints_len gs
    obtain rfl : p = gs.length := by omega
    refine Ev.step (fun k => ?_) (hR cur hc fun i _ => by rw [List.drop_length]; simp)
    conv => lhs; rw [teamsterref_Make.l5]
    rw [if_neg (by omega)]
  | succ d ih =>
    intro p hp cur hc hb hpos hR
    have hpl := ints_len gs
    have hlt : p < gs.length := by omega
    have hr0 := at_ints gs p hlt
    have hdrop : gs.drop p = gs[p] :: gs.drop (p + 1) := List.drop_eq_getElem_cons hlt
    have hx := hgn gs[p] (List.getElem_mem hlt)
    have hnd' : (gs[p] :: gs.drop (p + 1)).Nodup := by rw [← hdrop]; exact hnd.sublist (List.drop_sublist p gs)
    have hni := (List.nodup_cons.1 hnd').1
    rw [hdrop] at hpos
    have hxp := hpos gs[p] List.mem_cons_self
    have hxb := hb gs[p] hx
    generalize gs[p] = x at *
    have hset : ∀ i, at_ (cur.set x (at_ cur x - 1)) i = if x = i then at_ cur x - 1 else at_ cur i := fun i => at_set cur x i _ (by omega)
    have L := ih (p + 1) (by omega) (cur.set x (at_ cur x - 1)) (by rw [List.length_set, hc]) (fun i hi => by
      rw [hset]
      have := hb i hi
      split <;> omega) (fun y hy => by
      rw [hset, if_neg (fun e => hni (by rw [e]; exact hy))]
      exact hpos y (List.mem_cons_of_mem _ hy)) (fun cur' h1 h2 => hR cur' h1 fun i hi => by
      rw [h2 i hi, hset, hdrop]
      by_cases e : x = i
      · subst e
        rw [if_pos rfl, if_neg hni, if_pos List.mem_cons_self]; omega
      · rw [if_neg e]
        have : i ∈ x :: gs.drop (p + 1) ↔ i ∈ gs.drop (p + 1) := by simp [Ne.symm e]
        by_cases hm : i ∈ gs.drop (p + 1)
        · rw [if_pos hm, if_pos (this.2 hm)]
        · rw [if_neg hm, if_neg fun h => hm (this.1 h)])
    refine Ev.step (fun k => ?_) L
    conv => lhs; rw [teamsterref_Make.l5]
    have hrx : rd cur (x : Int) = at_ cur x := rfl
    rw [if_pos (by omega), if_pos (by omega), if_pos (by omega), hr0, if_pos (by omega), if_pos (by omega), hrx, wnext2 p (by omega), w64 (by omega) (by omega), Int.toNat_natCast]

theorem FirstRest.uniq {n : Nat} {need : Nat → Int} {v : Nat} {gs : List Nat} {a b : Nat} (ha : FirstRest n need v gs a) (hb : FirstRest n need v gs b) : a = b := by
  rcases Nat.lt_trichotomy a b with h | h | h
  · have := hb.2.2.2.2 a h ha.2.1 ha.2.2.1; have := ha.2.2.2.1 b hb.1 hb.2.1 hb.2.2.1; omega
  · exact h
  · have := ha.2.2.2.2 b h hb.2.1 hb.2.2.1; have := hb.2.2.2.1 a ha.1 ha.2.1 ha.2.2.1; omega

/-- The choices one by one. -/
theorem run_l3 {n : Nat} {need : Nat → Int} (hn : n ≤ 1100000) (hb : ∀ i, i < n → 0 ≤ need i ∧ need i ≤ 1100000) {v : Nat} (hv : v < n) (g0 : Int) (R : Res) {gs : List Nat} (hch : Ch n need v gs) :
    ∀ (es : List S75), es.length + gs.length ≤ 4000000000000 → (gs.length : Int) ≤ need v →
      (∀ cur : List Int, cur.length = n → (∀ i, i < n → at_ cur i = if i = v then need v - gs.length else need i) → Ev (fun k => teamsterref_Make.l3 k (n : Int) cur (v : Int) (ints gs) g0 (es ++ edges v gs)) R) →
      ∀ cur : List Int, cur.length = n → (∀ i, i < n → at_ cur i = need i) → Ev (fun k => teamsterref_Make.l3 k (n : Int) cur (v : Int) (ints []) g0 es) R := by
  induction hch with
  | nil =>
    intro es _ _ hR cur hc hcur
    have := hR cur hc fun i hi => by
      rw [hcur i hi]
      by_cases e : i = v
      · subst e; simp
      · rw [if_neg e]
    simpa [edges] using this
  | @snoc gs m hch hf hp ih =>
    intro es hes hle hR cur hc hcur
    rw [List.length_append, List.length_singleton] at hle hes
    have hshort := hch.short hv
    refine ih es (by omega) (by omega) (fun cur1 hc1 hcur1 => ?_) cur hc hcur
    have hxv : rd cur1 (v : Int) = at_ cur1 v := rfl
    have hbv := hb v hv
    have hcv : at_ cur1 v = need v - gs.length := by rw [hcur1 v hv, if_pos rfl]
    obtain ⟨c', hB, hgo⟩ := run_l4 hc1 hn gs (by omega) v g0 (es ++ edges v gs) n 0 (by omega) (-1) (.inl ⟨rfl, fun i hi => by omega⟩)
    have rest : ∀ i, i < n → i ≠ v → at_ cur1 i = need i := fun i hi hiv => by rw [hcur1 i hi, if_neg hiv]
    have hm : c' = m := by
      rcases hB with ⟨h1, h2⟩ | ⟨m', h1, h2, h3, h4, h5, h6, h7⟩
      · have := h2 m hf.1 hf.2.1 hf.2.2.1
        rw [rest m hf.1 hf.2.1] at this; omega
      · have : FirstRest n need v gs m' := ⟨h2, h3, h4, fun i hi hiv hig => by have := h6 i hi hiv hig; rwa [rest i hi hiv, rest m' h2 h3] at this, fun i hi hiv hig => by have := h7 i hi hiv hig; rwa [rest i (by omega) hiv, rest m' h2 h3] at this⟩
        rw [h1, this.uniq hf]
    subst hm
    have hil := ints_len gs
    have hel : (edges v gs).length = gs.length := List.length_map _
    have hset : ∀ i, i < n → at_ (cur1.set v (at_ cur1 v - 1)) i = if i = v then need v - (gs ++ [m]).length else need i := fun i hi => by
      rw [at_set _ _ _ _ (by omega), List.length_append, List.length_singleton]
      by_cases e : v = i
      · subst e; rw [if_pos rfl, if_pos rfl, hcv]; omega
      · rw [if_neg e, if_neg (Ne.symm e), rest i hi (Ne.symm e)]
    have next := hR (cur1.set v (at_ cur1 v - 1)) (by rw [List.length_set, hc1]) hset
    have e1 : ints (gs ++ [m]) = ints gs ++ [(m : Int)] := by simp [ints]
    have e2 : es ++ edges v (gs ++ [m]) = (es ++ edges v gs) ++ [(⟨(v : Int), (m : Int), 0⟩ : S75)] := by simp [edges]
    rw [e1, e2] at next
    refine Ev.step (fun k => ?_) (hgo R (Ev.congr (fun k => ?_) next))
    · conv => lhs; rw [teamsterref_Make.l3]
      rw [if_pos (by omega), if_pos (by omega), hxv, if_pos (by omega)]
      rfl
    · unfold l4After
      rw [if_neg (by omega), if_pos (by omega), if_pos (by omega), if_pos (by omega), if_pos (by rw [List.length_append]; omega), Int.toNat_natCast, hxv, w64 (by omega) (by omega)]

theorem after_facts {n : Nat} {need : Nat → Int} {v : Nat} {gs : List Nat} (hb : ∀ i, i < n → 0 ≤ need i ∧ need i ≤ 1100000) (hv : v < n) (hch : Ch n need v gs) (ht : (gs.length : Int) = need v) :
    (∀ i, i < n → 0 ≤ after need v gs i ∧ after need v gs i ≤ 1100000) ∧ sumR n need = sumR n (after need v gs) + need v + need v := by
  have hf := hch.facts
  have hvg : v ∉ gs := fun h => (hf.2 v h).2.1 rfl
  refine ⟨fun i hi => ?_, ?_⟩
  · have := hb i hi
    unfold after
    by_cases e : i = v
    · rw [if_pos e]; omega
    · rw [if_neg e]
      by_cases hg : i ∈ gs
      · have := hf.2 i hg
        rw [if_pos hg]; omega
      · rw [if_neg hg]; omega
  · have e : sumR n need = sumR n (fun i => after need v gs i + ((if decide (i ∈ gs) = true then 1 else 0) + if i = v then need v else 0)) := sumR_congr fun i hi => by
      unfold after
      by_cases e : i = v
      · subst e; simp [hvg]
      · rw [if_neg e, if_neg e]; simp
    rw [e, sumR_add, sumR_add, sumR_at hv]
    have : sumR n (fun i => if decide (i ∈ gs) = true then (1 : Int) else 0) = gs.length := cnt_list (fun x hx => (hf.2 x hx).1) hf.1
    omega

theorem run_congr {n : Nat} {need need' : Nat → Int} {es : List S75} {r : Option (List S75)} (h : Run n need es r) (he : ∀ i, i < n → need i = need' i) : Run n need' es r := by
  have hmax : ∀ {need need' : Nat → Int} {v : Nat}, (∀ i, i < n → need i = need' i) → FirstMax n need v → FirstMax n need' v := fun he h => ⟨h.1, fun i hi => by rw [← he i hi, ← he _ h.1]; exact h.2.1 i hi, fun i hi => by rw [← he i (by have := h.1; omega), ← he _ h.1]; exact h.2.2 i hi⟩
  have hch : ∀ {need need' : Nat → Int} {v : Nat} {gs : List Nat}, (∀ i, i < n → need i = need' i) → Ch n need v gs → Ch n need' v gs := by
    intro need need' v gs he h
    induction h with
    | nil => exact .nil
    | snoc _ hf hp ih => exact .snoc ih ⟨hf.1, hf.2.1, hf.2.2.1, fun i hi a b => by rw [← he i hi, ← he _ hf.1]; exact hf.2.2.2.1 i hi a b, fun i hi a b => by rw [← he i (by have := hf.1; omega), ← he _ hf.1]; exact hf.2.2.2.2 i hi a b⟩ (by rw [← he _ hf.1]; exact hp)
  induction h generalizing need' with
  | done h0 => exact .done fun i hi => by rw [← he i hi]; exact h0 i hi
  | stuck h1 h2 h3 h4 => exact .stuck (hmax he h1) (hch he h2) (by rw [← he _ h1.1]; exact h3) fun i hi a b => by rw [← he i hi]; exact h4 i hi a b
  | step h1 h2 h3 h4 _ ih => exact .step (hmax he h1) (by rw [← he _ h1.1]; exact h2) (hch he h3) (by rw [← he _ h1.1]; exact h4) (ih fun i hi => by unfold after; rw [he i hi])

/-- The reference's Make comes to what the run comes to. -/
theorem run_ref {n : Nat} (hn : n ≤ 1100000) {need : Nat → Int} {es : List S75} {r : Option (List S75)} (h : Run n need es r) :
    (∀ i, i < n → 0 ≤ need i ∧ need i ≤ 1100000) → es.length + (sumR n need).toNat ≤ 4000000000000 → ∀ cur : List Int, cur.length = n → (∀ i, i < n → at_ cur i = need i) →
      Ev (fun k => teamsterref_Make.l1 k (n : Int) cur (n : Int) es) (resOf n r) := by
  have enter : ∀ {need : Nat → Int} {cur : List Int} {v : Nat} {es : List S75} {R : Res}, cur.length = n → (∀ i, i < n → at_ cur i = need i) → FirstMax n need v → Ev (fun k => teamsterref_Make.j3 k (n : Int) cur (v : Int) (at_ cur v == 0) (n : Int) es) R → Ev (fun k => teamsterref_Make.l1 k (n : Int) cur (n : Int) es) R := by
    intro need cur v es R hc hcur hf hR
    have hf' : FirstMax n (at_ cur) v := ⟨hf.1, fun i hi => by rw [hcur i hi, hcur _ hf.1]; exact hf.2.1 i hi, fun i hi => by rw [hcur i (by have := hf.1; omega), hcur _ hf.1]; exact hf.2.2 i hi⟩
    have := run_l2 hc hn (n : Int) es hf' R hR n 0 (by omega) 0 (by have := hf.1; omega) (fun i hi => by omega) (fun i hi => by omega)
    refine Ev.step (fun k => ?_) this
    rw [teamsterref_Make.l1]; rfl
  induction h with
  | @done need es h0 =>
    intro hb hes cur hc hcur
    by_cases hz : n = 0
    · subst hz
      refine Ev.step (g := fun k => teamsterref_Make.l2 k ((0 : Nat) : Int) cur 0 0 ((0 : Nat) : Int) es) (fun k => by rw [teamsterref_Make.l1]) (Ev.step (g := fun k => teamsterref_Make.j3 k ((0 : Nat) : Int) cur 0 true ((0 : Nat) : Int) es) (fun k => ?_) (Ev.step (g := fun _ => some (((0 : Nat) : Int), es, true)) (fun k => ?_) (.const _)))
      · conv => lhs; rw [teamsterref_Make.l2]
        rw [if_neg (by omega), if_pos (by omega)]
      · rw [teamsterref_Make.j3, if_pos rfl]
    · refine enter (v := 0) hc hcur ⟨by omega, fun i hi => by rw [h0 i hi, h0 0 (by omega)]; exact Int.le_refl _, fun i hi => by omega⟩ (Ev.step (g := fun _ => some ((n : Int), es, true)) (fun k => ?_) (.const _))
      rw [hcur 0 (by omega), h0 0 (by omega), teamsterref_Make.j3]; rfl
  | @stuck need es v gs hf hch hlt hno =>
    intro hb hes cur hc hcur
    have hsv : need v ≤ sumR n need := sumR_le_at hf.1 fun i hi => (hb i hi).1
    have hbv := hb v hf.1
    refine enter hc hcur hf (Ev.step (fun k => ?_) (run_l3 hn hb hf.1 (n : Int) (0, [], false) hch es (by omega) (by omega) (fun cur1 hc1 hcur1 => ?_) cur hc hcur))
    · conv => lhs; rw [teamsterref_Make.j3]
      rw [hcur v hf.1, if_neg (by simp; omega)]
      rfl
    · have hxv : rd cur1 (v : Int) = at_ cur1 v := rfl
      have hcv : at_ cur1 v = need v - gs.length := by rw [hcur1 v hf.1, if_pos rfl]
      have hshort := hch.short hf.1
      obtain ⟨c', hB, hgo⟩ := run_l4 hc1 hn gs (by omega) v (n : Int) (es ++ edges v gs) n 0 (by omega) (-1) (.inl ⟨rfl, fun i hi => by omega⟩)
      have hc' : c' = -1 := by
        rcases hB with ⟨h1, _⟩ | ⟨m, _, h2, h3, h4, h5, _⟩
        · exact h1
        · have := hno m h2 h3 h4
          rw [hcur1 m h2, if_neg h3] at h5; omega
      subst hc'
      have hv1 := hf.1
      refine Ev.step (fun k => ?_) (hgo _ (.of_eq fun k => by unfold l4After; rw [if_pos (by omega)]))
      conv => lhs; rw [teamsterref_Make.l3]
      rw [if_pos (by omega), if_pos (by omega), hxv, if_pos (by omega)]
      rfl
  | @step need es v gs r hf hp hch ht hrun ih =>
    intro hb hes cur hc hcur
    obtain ⟨a1, a2⟩ := after_facts hb hf.1 hch ht
    have hs0 : 0 ≤ sumR n (after need v gs) := sumR_nonneg fun i hi => (a1 i hi).1
    have hbv := hb v hf.1
    have hfa := hch.facts
    have hel : (edges v gs).length = gs.length := List.length_map _
    refine enter hc hcur hf (Ev.step (fun k => ?_) (run_l3 hn hb hf.1 (n : Int) (resOf n r) hch es (by omega) (by omega) (fun cur1 hc1 hcur1 => ?_) cur hc hcur))
    · conv => lhs; rw [teamsterref_Make.j3]
      rw [hcur v hf.1, if_neg (by simp; omega)]
      rfl
    · have hv1 := hf.1
      have hxv : rd cur1 (v : Int) = at_ cur1 v := rfl
      have hcv : at_ cur1 v = 0 := by rw [hcur1 v hf.1, if_pos rfl]; omega
      have hvg : v ∉ gs := fun h => (hfa.2 v h).2.1 rfl
      have L := run_l5 (n := n) gs (by omega) (fun x hx => (hfa.2 x hx).1) hfa.1 (n : Int) (es ++ edges v gs) (resOf n r) gs.length 0 (by omega) cur1 hc1 (fun i hi => by
        rw [hcur1 i hi]; have := hb i hi; split <;> omega) (fun x hx => by
        rw [List.drop_zero] at hx
        have := hfa.2 x hx
        rw [hcur1 x this.1, if_neg this.2.1]; omega) (fun cur' h1 h2 => ih a1 (by rw [List.length_append]; omega) cur' h1 fun i hi => by
        rw [h2 i hi, List.drop_zero, hcur1 i hi]
        unfold after
        by_cases e : i = v
        · subst e; rw [if_pos rfl, if_pos rfl, if_neg hvg]; omega
        · rw [if_neg e, if_neg e])
      refine Ev.step (fun k => ?_) L
      conv => lhs; rw [teamsterref_Make.l3]
      rw [if_pos (by omega), if_pos (by omega), hxv, if_neg (by omega)]
      rfl

end Go.Proofs.Ytoblkmbmacimiaa.L
