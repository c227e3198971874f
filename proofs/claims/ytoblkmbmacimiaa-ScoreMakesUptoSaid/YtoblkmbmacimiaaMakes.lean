/- Plain: score.Make and the reference's Make come to the same. -/
import Derived.Test.YtoblkmbmacimiaaScored
import Derived.Test.YtoblkmbmacimiaaGteamsterlawScoreMakes
namespace Go.Proofs.Ytoblkmbmacimiaa.L
open Go Go.RowKit Go.Shelf Go.Proofs.YtoblkmbmacimiaaW.PrintWords Go.Proofs.YtoblkmbmacimiaaW.PrintMore Go.Proofs.Ytoblkmbmacimiaa.G

theorem scored_main {n : Nat} : ∀ (m : Nat) (need : Nat → Int) (l : List S113) (es : List S75), Holds n need l → (∀ i, i < n → 0 ≤ need i ∧ need i ≤ 1000) → l.length ≤ 10 → (sumR n need).toNat ≤ m → es.length + (sumR n need).toNat ≤ 20000 →
    ∃ r, Run n need es r ∧ Ev (fun k => score_Make.l1 k l (n : Int) es) (sresOf n r) := by
  intro m
  induction m using Nat.strongRecOn with
  | _ m ih =>
    intro need l es hh hb hl hm hes
    obtain ⟨hp, hs⟩ := sort_facts l
    have hS : slices_SortFunc_node.f l = some (l.mergeSort fun x y => !(ltOf nodeCmp) y x) := by unfold slices_SortFunc_node.f; rw [if_pos (by omega)]
    generalize ht : (l.mergeSort fun x y => !(ltOf nodeCmp) y x) = t at *
    have hht := hh.perm hp.symm
    have hlen : t.length = l.length := hp.length_eq
    cases t with
    | nil =>
      have hl0 : l.length = 0 := by rw [← hlen]; rfl
      refine ⟨some es, .done fun i hi => ?_, ?_⟩
      · apply Classical.byContradiction
        intro hz
        obtain ⟨x, hx, _⟩ := hht.all i hi hz
        cases hx
      · refine Ev.step (g := fun k => score_Make.j2 k [] true (n : Int) es) (fun k => ?_) (Ev.step (g := fun _ => some ((n : Int), es, 0)) (fun k => ?_) (.const _))
        · conv => lhs; rw [score_Make.l1]
          rw [hS, Option.bind_some, if_pos (by omega)]
        · rw [score_Make.j2, if_pos rfl]
    | cons x y =>
      have hlp : 0 < l.length := by rw [← hlen]; simp
      have hyl : y.length + 1 = l.length := by rw [← hlen]; rfl
      obtain ⟨v, hv1, hv2, hv3, hv4, hv5, hv6⟩ := head_max (fun i hi => (hb i hi).1) hht hs
      have hx0 : rd_T113 (x :: y) 0 = x := rfl
      have enter : ∀ R, Ev (fun k => score_Make.j2 k (x :: y) (x.f1 == 0) (n : Int) es) R → Ev (fun k => score_Make.l1 k l (n : Int) es) R := fun R hR => by
        refine Ev.step (fun k => ?_) hR
        conv => lhs; rw [score_Make.l1]
        rw [hS, Option.bind_some, if_neg (by omega), if_pos (by omega), hx0]
      have hbv := hb v hv1
      by_cases hz : need v = 0
      · refine ⟨some es, .done (hv6 hz), enter _ (Ev.step (g := fun _ => some ((n : Int), es, 0)) (fun k => ?_) (.const _))⟩
        rw [hv4, hz, score_Make.j2]
        simp
      · have hpos : 0 < need v := by omega
        have hfm := hv5 hpos
        obtain ⟨T, hT⟩ : ∃ T : Nat, need v = T := ⟨(need v).toNat, by omega⟩
        have hsv : need v ≤ sumR n need := sumR_le_at hv1 fun i hi => (hb i hi).1
        have enter2 : ∀ R, Ev (fun k => if x.f1 > (y.length : Int) then some (0, ([] : List S75), 5) else score_Make.l2 k y x.f1 0 (n : Int) es x.f0 x.f1) R → Ev (fun k => score_Make.l1 k l (n : Int) es) R := fun R hR => by
          refine enter R (Ev.step (fun k => ?_) hR)
          conv => lhs; rw [score_Make.j2]
          rw [if_neg (by simp; omega), if_pos (by rw [List.length_cons]; omega), if_pos (by rw [List.length_cons]; omega), hx0]
          rfl
        have hby : ∀ z ∈ y, 0 ≤ z.f1 ∧ z.f1 ≤ 1000000 := fun z hz => by
          obtain ⟨i, h1, h2, h3⟩ := hht.node z (List.mem_cons_of_mem _ hz)
          have := hb i h1; omega
        have hfy : ∀ z ∈ y, 0 ≤ z.f0 := fun z hz => by
          obtain ⟨i, h1, h2, h3⟩ := hht.node z (List.mem_cons_of_mem _ hz)
          omega
        have hs' := (List.pairwise_cons.1 hs).2
        -- how many of the rest still need something
        have ex : ∃ q, q ≤ y.length ∧ (∀ j (hj : j < y.length), j < q → 0 < y[j].f1) ∧ (q < y.length → ∀ (hq : q < y.length), y[q].f1 = 0) := by
          have key : ∀ k, k ≤ y.length → (∀ j (hj : j < y.length), j < k → 0 < y[j].f1) ∨ ∃ q, q < k ∧ (∀ j (hj : j < y.length), j < q → 0 < y[j].f1) ∧ ∀ (hq : q < y.length), y[q].f1 = 0 := by
            intro k
            induction k with
            | zero => intro _; exact .inl fun j _ hj => by omega
            | succ k ihk =>
              intro hk
              rcases ihk (by omega) with h | ⟨q, h1, h2, h3⟩
              · by_cases h0 : 0 < (y[k]'(by omega)).f1
                · refine .inl fun j hj hjk => ?_
                  rcases Nat.lt_succ_iff_lt_or_eq.1 hjk with h' | h'
                  · exact h j hj h'
                  · subst h'; exact h0
                · refine .inr ⟨k, by omega, h, fun hq => ?_⟩
                  have := (hby y[k] (List.getElem_mem hq)).1; omega
              · exact .inr ⟨q, by omega, h2, h3⟩
          rcases key y.length (Nat.le_refl _) with h | ⟨q, h1, h2, h3⟩
          · exact ⟨y.length, Nat.le_refl _, h, fun h => by omega⟩
          · exact ⟨q, by omega, h2, fun _ => h3⟩
        obtain ⟨q, hq1, hq2, hq3⟩ := ex
        have hch : ∀ k, k ≤ q → Ch n need v ((y.take k).map num) := fun k hk => by
          have := ch_sorted (fun i hi => (hb i hi).1) hht hs k (by omega) fun j hj hjk => hq2 j hj (by omega)
          rwa [hv2] at this
        have hgl : ∀ k, k ≤ y.length → ((y.take k).map num).length = k := fun k hk => by rw [List.length_map, List.length_take]; omega
        by_cases hqT : q < T
        · -- too few
          have stuck : Run n need es none := by
            refine .stuck hfm (hch q (Nat.le_refl _)) (by rw [hgl q hq1]; omega) fun i hi hiv hig => ?_
            rcases Int.lt_or_le 0 (need i) with h | h
            · exfalso
              obtain ⟨z, hz1, hz2⟩ := hht.all i hi (by omega)
              obtain ⟨iz, _, hz3, hz4⟩ := hht.node z hz1
              have : iz = i := by omega
              subst this
              rcases List.mem_cons.1 hz1 with rfl | hz1
              · exact hiv (by omega)
              · obtain ⟨p, hp', e⟩ := List.getElem_of_mem hz1
                rcases Nat.lt_or_ge p q with hpq | hpq
                · apply hig
                  rw [List.mem_map]
                  refine ⟨y[p], ?_, by rw [e]; unfold num; omega⟩
                  have : (y.take q)[p]'(by rw [List.length_take]; omega) = y[p] := by simp
                  rw [← this]; exact List.getElem_mem _
                · have hqy : q < y.length := by omega
                  have hq0 := hq3 hqy hqy
                  rcases Nat.eq_or_lt_of_le hpq with e2 | h2
                  · subst e2; rw [e] at hq0; omega
                  · have := List.pairwise_iff_getElem.1 hs' q p hqy hp' h2
                    unfold Ahead at this
                    rw [e] at this; omega
            · exact h
          refine ⟨none, stuck, enter2 _ ?_⟩
          by_cases hgt : x.f1 > (y.length : Int)
          · refine .of_eq fun k => ?_
            rw [if_pos hgt]; rfl
          · have hqy : q < y.length := by omega
            have L := scored_fail (n := n) (v := v) (T := T) (by omega) hby (by omega) q hqT (hq3 hqy hqy) hq2 q 0 (by omega) es (by omega)
            refine Ev.congr (fun k => ?_) L
            rw [if_neg hgt, hv4, hv3, hT]
            rfl
        · -- enough
          have hTy : T ≤ y.length := by omega
          have hpT : ∀ j (hj : j < y.length), j < T → 0 < y[j].f1 := fun j hj hjT => hq2 j hj (by omega)
          have hchT := hch T (by omega)
          have hlT : (((y.take T).map num).length : Int) = need v := by rw [hgl T hTy]; omega
          obtain ⟨a1, a2⟩ := after_facts (fun i hi => ⟨(hb i hi).1, by have := hb i hi; omega⟩) hv1 hchT hlT
          have hs0 : 0 ≤ sumR n (after need v ((y.take T).map num)) := sumR_nonneg fun i hi => (a1 i hi).1
          have hcut := holds_cut hht hTy hpT
          rw [hv2] at hcut
          have hel : (edges v ((y.take T).map num)).length = T := by unfold edges; rw [List.length_map, hgl T hTy]
          obtain ⟨r, k1, k2⟩ := ih (sumR n (after need v ((y.take T).map num))).toNat (by omega) _ (cut y T) (es ++ edges v ((y.take T).map num)) hcut (fun i hi => ⟨(a1 i hi).1, by
            have := hb i hi
            unfold after
            split
            · omega
            · split <;> omega⟩) (by rw [cut_len]; omega) (Nat.le_refl _) (by rw [List.length_append, hel]; omega)
          refine ⟨r, .step hfm hpos hchT hlT k1, enter2 _ ?_⟩
          have L := scored_go (n := n) (v := v) (T := T) (by omega) hby hfy hTy hpT es (sresOf n r) k2 T 0 (by omega) (by omega)
          refine Ev.congr (fun k => ?_) L
          rw [if_neg (by omega), hv4, hv3, hT]
          simp [edges, cut]

/-! ### The beginnings -/
theorem ref_start (l : List Int) (hl : l.length ≤ 1100000) : ((∃ p, p < l.length ∧ (at_ l p < 0 ∨ (l.length : Int) ≤ at_ l p)) ∧ Ev (fun k => teamsterref_Make.f k l) (0, [], false)) ∨
    ((∀ p, p < l.length → 0 ≤ at_ l p ∧ at_ l p < l.length) ∧ ∀ r : Res, Ev (fun k => teamsterref_Make.l1 k (l.length : Int) l (l.length : Int) []) r → Ev (fun k => teamsterref_Make.f k l) r) := by
  have start : ∀ r : Res, Ev (fun k => teamsterref_Make.l0 k (l.length : Int) l l (l.length : Int) 0 (l.length : Int)) r → Ev (fun k => teamsterref_Make.f k l) r := fun r hr => by
    refine Ev.congr (fun k => ?_) hr
    unfold teamsterref_Make.f
    rw [Option.bind_some, if_pos (by simp; omega)]
    rfl
  have scan : ∀ d i, i + d = l.length → (∀ p, p < i → 0 ≤ at_ l p ∧ at_ l p < l.length) →
      ((∃ p, p < l.length ∧ (at_ l p < 0 ∨ (l.length : Int) ≤ at_ l p)) ∧ Ev (fun k => teamsterref_Make.l0 k (l.length : Int) l l (l.length : Int) (i : Int) (l.length : Int)) (0, [], false)) ∨
      ((∀ p, p < l.length → 0 ≤ at_ l p ∧ at_ l p < l.length) ∧ ∀ r : Res, Ev (fun k => teamsterref_Make.l1 k (l.length : Int) l (l.length : Int) []) r → Ev (fun k => teamsterref_Make.l0 k (l.length : Int) l l (l.length : Int) (i : Int) (l.length : Int)) r) := by
    intro d
    induction d with
    | zero =>
      intro i hi hr
      obtain rfl : i = l.length := by omega
      refine .inr ⟨hr, fun r hR => Ev.step (fun k => ?_) hR⟩
      conv => lhs; rw [teamsterref_Make.l0]
      rw [if_neg (by omega)]
    | succ d ih =>
      intro i hi hr
      have hx : rd l (i : Int) = at_ l i := rfl
      by_cases hbad : at_ l i < 0 ∨ at_ l i ≥ l.length
      · refine .inl ⟨⟨i, by omega, by omega⟩, Ev.step (g := fun _ => some (0, [], false)) (fun k => ?_) (.const _)⟩
        rw [teamsterref_Make.l0, if_pos (by omega), if_pos (by omega), if_pos (by omega), hx]
        by_cases h0 : at_ l i < 0
        · rw [if_pos h0]
        · rw [if_neg h0, if_pos (by omega)]
      · have stepE : ∀ r : Res, Ev (fun k => teamsterref_Make.l0 k (l.length : Int) l l (l.length : Int) ((i + 1 : Nat) : Int) (l.length : Int)) r → Ev (fun k => teamsterref_Make.l0 k (l.length : Int) l l (l.length : Int) (i : Int) (l.length : Int)) r := fun r hR => by
          refine Ev.step (fun k => ?_) hR
          conv => lhs; rw [teamsterref_Make.l0]
          rw [if_pos (by omega), if_pos (by omega), if_pos (by omega), hx, if_neg (by omega), if_neg (by omega), wnext2 i (by omega)]
        rcases ih (i + 1) (by omega) (fun p hp => by
          rcases Nat.lt_succ_iff_lt_or_eq.1 hp with h | h
          · exact hr p h
          · rw [h]; omega) with ⟨h1, h2⟩ | ⟨h1, h2⟩
        · exact .inl ⟨h1, stepE _ h2⟩
        · exact .inr ⟨h1, fun r hR => stepE r (h2 r hR)⟩
  rcases scan l.length 0 (by omega) (fun p hp => by omega) with ⟨h1, h2⟩ | ⟨h1, h2⟩
  · exact .inl ⟨h1, start _ h2⟩
  · exact .inr ⟨h1, fun r hR => start r (h2 r hR)⟩

end Go.Proofs.Ytoblkmbmacimiaa.L
