/- Plain: score.Make follows a run of Havel and Hakimi. -/
import Derived.Test.YtoblkmbmacimiaaRuns
import Derived.Test.YtoblkmbmacimiaaGscoreMake
namespace Go.Proofs.Ytoblkmbmacimiaa.L
open Go Go.RowKit Go.Shelf Go.Sort Go.Proofs.YtoblkmbmacimiaaW.PrintWords Go.Proofs.YtoblkmbmacimiaaW.PrintMore Go.Proofs.Ytoblkmbmacimiaa.G

abbrev SRes := Int × (List S75) × Int
def sresOf (n : Nat) : Option (List S75) → SRes
  | some es => ((n : Int), es, 0)
  | none => (0, [], 5)

/-- The nodes that are left, each with what it needs. -/
structure Holds (n : Nat) (need : Nat → Int) (l : List S113) : Prop where
  node : ∀ x ∈ l, ∃ i : Nat, i < n ∧ x.f0 = i ∧ x.f1 = need i
  nodup : (l.map S113.f0).Nodup
  all : ∀ i, i < n → need i ≠ 0 → ∃ x ∈ l, x.f0 = i

def num (x : S113) : Nat := x.f0.toNat
def dec (x : S113) : S113 := ⟨x.f0, x.f1 - 1⟩

theorem Holds.perm {n : Nat} {need : Nat → Int} {l l' : List S113} (h : Holds n need l) (hp : l.Perm l') : Holds n need l' :=
  ⟨fun x hx => h.node x (hp.mem_iff.2 hx), (hp.map S113.f0).nodup_iff.1 h.nodup, fun i hi hz => by
    obtain ⟨x, hx, e⟩ := h.all i hi hz
    exact ⟨x, hp.mem_iff.1 hx, e⟩⟩

theorem sort_facts (l : List S113) : (l.mergeSort fun x y => !(ltOf nodeCmp) y x).Perm l ∧ (l.mergeSort fun x y => !(ltOf nodeCmp) y x).Pairwise fun x y => ¬ Ahead y x := by
  refine ⟨List.mergeSort_perm _ _, ?_⟩
  have := List.pairwise_mergeSort (le := fun x y => !(ltOf nodeCmp) y x) (fun a b c h1 h2 => by
    simp only [Bool.not_eq_true', lt_node_false] at *
    unfold Ahead at *; omega) (fun a b => by
    simp only [Bool.or_eq_true, Bool.not_eq_true', lt_node_false]
    unfold Ahead; omega) l
  exact this.imp fun h => by simpa only [Bool.not_eq_true', lt_node_false] using h

theorem rdN (l : List S113) (i : Nat) (h : i < l.length) : rd_T113 l (i : Int) = l[i] := by
  unfold rd_T113; rw [Int.toNat_natCast, List.getD_eq_getElem?_getD, List.getElem?_eq_getElem h]; rfl

/-- The choices are the first ones of the rest. -/
theorem ch_sorted {n : Nat} {need : Nat → Int} (_hn0 : ∀ i, i < n → 0 ≤ need i) {x : S113} {y : List S113} (hh : Holds n need (x :: y)) (hs : (x :: y).Pairwise fun a b => ¬ Ahead b a) :
    ∀ k, k ≤ y.length → (∀ j (hj : j < y.length), j < k → 0 < y[j].f1) → Ch n need (num x) ((y.take k).map num) := by
  intro k
  induction k with
  | zero => intro _ _; exact .nil
  | succ k ih =>
    intro hk hpos
    have hlt : k < y.length := by omega
    have ht : (y.take (k + 1)).map num = (y.take k).map num ++ [num y[k]] := by
      rw [List.take_add_one, List.getElem?_eq_getElem hlt, List.map_append]; rfl
    rw [ht]
    have hnd := hh.nodup
    rw [List.map_cons, List.nodup_cons] at hnd
    obtain ⟨m, hm1, hm2, hm3⟩ := hh.node y[k] (List.mem_cons_of_mem _ (List.getElem_mem hlt))
    obtain ⟨v, hv1, hv2, hv3⟩ := hh.node x List.mem_cons_self
    have hnm : num y[k] = m := by unfold num; omega
    have hnv : num x = v := by unfold num; omega
    have hs' := (List.pairwise_cons.1 hs).2
    -- one that is not yet taken stands from k on
    have later : ∀ i, i < n → i ≠ num x → i ∉ (y.take k).map num → need i ≠ 0 → ∃ q, ∃ hq : q < y.length, k ≤ q ∧ y[q].f0 = i ∧ y[q].f1 = need i := by
      intro i hi hiv hig hz
      obtain ⟨z, hz1, hz2⟩ := hh.all i hi hz
      rcases List.mem_cons.1 hz1 with rfl | hz1
      · exact absurd (by unfold num; omega) hiv
      · obtain ⟨q, hq, e⟩ := List.getElem_of_mem hz1
        refine ⟨q, hq, ?_, by rw [e]; exact hz2, ?_⟩
        · rcases Nat.lt_or_ge q k with h | h
          · exfalso
            apply hig
            rw [List.mem_map]
            refine ⟨y[q], ?_, by unfold num; rw [e]; omega⟩
            have : (y.take k)[q]'(by rw [List.length_take]; omega) = y[q] := by simp
            rw [← this]; exact List.getElem_mem _
          · exact h
        · obtain ⟨i', hi', e1, e2⟩ := hh.node z (List.mem_cons_of_mem _ hz1)
          rw [e, e2]; congr 1; omega
    have hord : ∀ q (hq : q < y.length), k < q → ¬ Ahead y[q] y[k] := fun q hq hkq => List.pairwise_iff_getElem.1 hs' k q hlt hq hkq
    have hpk := hpos k hlt (by omega)
    refine .snoc (ih (by omega) fun j hj hjk => hpos j hj (by omega)) ⟨by omega, ?_, ?_, fun i hi a b => ?_, fun i hi a b => ?_⟩ (by rw [hnm, ← hm3]; exact hpk)
    · intro e
      apply hnd.1
      rw [List.mem_map]
      exact ⟨y[k], List.getElem_mem hlt, by omega⟩
    · intro hmem
      rw [List.mem_map] at hmem
      obtain ⟨z, hz, e⟩ := hmem
      obtain ⟨q, hq, e2⟩ := List.getElem_of_mem hz
      rw [List.length_take] at hq
      have e3 : (y.take k)[q]'(by rw [List.length_take]; omega) = y[q]'(by omega) := by simp
      rw [e3] at e2
      obtain ⟨iz, _, hz1, _⟩ := hh.node z (List.mem_cons_of_mem _ (by rw [← e2]; exact List.getElem_mem _))
      have hne := List.pairwise_iff_getElem.1 hnd.2 q k (by rw [List.length_map]; omega) (by rw [List.length_map]; omega) (by omega)
      apply hne
      rw [List.getElem_map, List.getElem_map, e2]
      unfold num at e; omega
    · rw [hnm, ← hm3]
      by_cases hz : need i = 0
      · omega
      · obtain ⟨q, hq, hkq, e1, e2⟩ := later i hi a b hz
        rcases Nat.eq_or_lt_of_le hkq with rfl | h
        · omega
        · have := hord q hq h
          unfold Ahead at this; omega
    · rw [hnm, ← hm3]
      have hin : i < n := by omega
      by_cases hz : need i = 0
      · omega
      · obtain ⟨q, hq, hkq, e1, e2⟩ := later i hin a b hz
        rcases Nat.eq_or_lt_of_le hkq with rfl | h
        · exfalso; rw [hnm] at hi; omega
        · have := hord q hq h
          rw [hnm] at hi
          unfold Ahead at this; omega

theorem head_max {n : Nat} {need : Nat → Int} (hn0 : ∀ i, i < n → 0 ≤ need i) {x : S113} {y : List S113} (hh : Holds n need (x :: y)) (hs : (x :: y).Pairwise fun a b => ¬ Ahead b a) :
    ∃ v : Nat, v < n ∧ num x = v ∧ x.f0 = v ∧ x.f1 = need v ∧ (0 < need v → FirstMax n need v) ∧ (need v = 0 → ∀ i, i < n → need i = 0) := by
  obtain ⟨v, hv1, hv2, hv3⟩ := hh.node x List.mem_cons_self
  have key : ∀ i, i < n → need i ≠ 0 → need i < need v ∨ need i = need v ∧ v ≤ i := fun i hi hz => by
    obtain ⟨z, hz1, hz2⟩ := hh.all i hi hz
    obtain ⟨i', h1, h2, h3⟩ := hh.node z hz1
    have : i' = i := by omega
    subst this
    rcases List.mem_cons.1 hz1 with rfl | hz1
    · right
      have : i' = v := by omega
      rw [this]; exact ⟨rfl, Nat.le_refl _⟩
    · have := (List.pairwise_cons.1 hs).1 z hz1
      unfold Ahead at this; omega
  refine ⟨v, hv1, by unfold num; omega, hv2, hv3, fun hp => ⟨hv1, fun i hi => ?_, fun i hi => ?_⟩, fun hz i hi => ?_⟩
  · by_cases h0 : need i = 0
    · omega
    · have := key i hi h0; omega
  · by_cases h0 : need i = 0
    · omega
    · have := key i (by omega) h0; omega
  · by_cases h0 : need i = 0
    · exact h0
    · have := key i hi h0; have := hn0 i hi; omega

/-- The rest, the first k of it with one less. -/
def cut (y : List S113) (k : Nat) : List S113 := (y.take k).map dec ++ y.drop k
theorem cut_get (y : List S113) (k i : Nat) (h : k ≤ y.length) : (cut y k)[i]? = if i < k then (y[i]?).map dec else y[i]? := by
  unfold cut
  have hl : ((y.take k).map dec).length = k := by rw [List.length_map, List.length_take]; omega
  rw [List.getElem?_append, hl]
  by_cases hi : i < k
  · rw [if_pos hi, if_pos hi, List.getElem?_map, List.getElem?_take_of_lt hi]
  · rw [if_neg hi, if_neg hi, List.getElem?_drop]
    congr 1; omega
theorem cut_len (y : List S113) (k : Nat) : (cut y k).length = y.length := by
  unfold cut
  rw [List.length_append, List.length_map, List.length_take, List.length_drop]; omega
theorem cut_set (y : List S113) (k : Nat) (h : k < y.length) : (cut y k).set k (dec y[k]) = cut y (k + 1) := by
  apply List.ext_getElem?
  intro i
  rw [List.getElem?_set, cut_len, cut_get _ _ _ (by omega), cut_get _ _ _ (by omega)]
  by_cases e : k = i
  · subst e
    rw [if_pos rfl, if_pos h, if_pos (by omega), List.getElem?_eq_getElem h]; rfl
  · rw [if_neg e]
    by_cases hi : i < k
    · rw [if_pos hi, if_pos (by omega)]
    · rw [if_neg hi, if_neg (by omega)]

theorem rd_of (l : List S113) (i : Nat) (p : S113) (h : l[i]? = some p) : rd_T113 l (i : Int) = p := by
  unfold rd_T113; rw [Int.toNat_natCast, List.getD_eq_getElem?_getD, h]; rfl

section
variable {n : Nat} {y : List S113} {v : Nat} {T : Nat}

theorem scored_step (hy : y.length ≤ 1000) (hb : ∀ x ∈ y, 0 ≤ x.f1 ∧ x.f1 ≤ 1000000) (hT : T ≤ y.length) (es : List S75) (hes : es.length ≤ 1000000) (k : Nat) (hk : k < T) (R : SRes)
    (hR : Ev (fun m => if (y[k]'(by omega)).f1 - 1 < 0 then some (0, ([] : List S75), 5) else score_Make.l2 m (cut y (k + 1)) (T : Int) ((k + 1 : Nat) : Int) (n : Int) (es ++ [(⟨(v : Int), (y[k]'(by omega)).f0, 0⟩ : S75)]) (v : Int) (T : Int)) R) :
    Ev (fun m => score_Make.l2 m (cut y k) (T : Int) (k : Int) (n : Int) es (v : Int) (T : Int)) R := by
  have hky : k < y.length := by omega
  have hcl := cut_len y k
  have h1 : rd_T113 (cut y k) (k : Int) = y[k] := rd_of _ _ _ (by rw [cut_get _ _ _ (by omega), if_neg (by omega), List.getElem?_eq_getElem hky])
  have h2 : rd_T113 (cut y (k + 1)) (k : Int) = dec y[k] := rd_of _ _ _ (by rw [cut_get _ _ _ (by omega), if_pos (by omega), List.getElem?_eq_getElem hky]; rfl)
  have hbk := hb y[k] (List.getElem_mem hky)
  refine Ev.step (fun m => ?_) hR
  conv => lhs; rw [score_Make.l2]
  have hw : (⟨(y[k]).f0, wrap64 ((y[k]).f1 - 1)⟩ : S113) = dec y[k] := by unfold dec; rw [w64 (by omega) (by omega)]
  rw [if_pos (by omega), if_pos (by omega), if_pos (by omega), h1, hw, Int.toNat_natCast, cut_set y k hky, Option.bind_some, h2]
  by_cases hneg : (y[k]).f1 - 1 < 0
  · rw [if_pos hneg, if_pos (show (dec y[k]).f1 < 0 from hneg)]
  · rw [if_neg hneg, if_neg (show ¬ (dec y[k]).f1 < 0 from hneg), if_pos (by omega), wnext k (by omega)]
    rfl

theorem take_snoc (y : List S113) (k : Nat) (h : k < y.length) : (y.take (k + 1)).map num = (y.take k).map num ++ [num y[k]] := by
  rw [List.take_add_one, List.getElem?_eq_getElem h, List.map_append]; rfl

theorem scored_fail (hy : y.length ≤ 1000) (hb : ∀ x ∈ y, 0 ≤ x.f1 ∧ x.f1 ≤ 1000000) (hT : T ≤ y.length) (q : Nat) (hq : q < T) (hz : (y[q]'(by omega)).f1 = 0) (hpos : ∀ j (hj : j < y.length), j < q → 0 < y[j].f1) :
    ∀ d k, k + d = q → ∀ es : List S75, es.length + d ≤ 1000000 → Ev (fun m => score_Make.l2 m (cut y k) (T : Int) (k : Int) (n : Int) es (v : Int) (T : Int)) (0, [], 5) := by
  intro d
  induction d with
  | zero =>
    intro k hk es hes
    obtain rfl : k = q := by omega
    refine scored_step hy hb hT es (by omega) k hq _ (.of_eq fun m => ?_)
    rw [if_pos (by omega)]
  | succ d ih =>
    intro k hk es hes
    have := hpos k (by omega) (by omega)
    refine scored_step hy hb hT es (by omega) k (by omega) _ (Ev.congr (fun m => ?_) (ih (k + 1) (by omega) (es ++ [(⟨(v : Int), (y[k]'(by omega)).f0, 0⟩ : S75)]) (by rw [List.length_append, List.length_singleton]; omega)))
    rw [if_neg (by omega)]

theorem scored_go (hy : y.length ≤ 1000) (hb : ∀ x ∈ y, 0 ≤ x.f1 ∧ x.f1 ≤ 1000000) (hf : ∀ x ∈ y, 0 ≤ x.f0) (hT : T ≤ y.length) (hpos : ∀ j (hj : j < y.length), j < T → 0 < y[j].f1) (es0 : List S75) (R : SRes)
    (hR : Ev (fun m => score_Make.l1 m (cut y T) (n : Int) (es0 ++ edges v ((y.take T).map num))) R) :
    ∀ d k, k + d = T → es0.length + T ≤ 1000000 → Ev (fun m => score_Make.l2 m (cut y k) (T : Int) (k : Int) (n : Int) (es0 ++ edges v ((y.take k).map num)) (v : Int) (T : Int)) R := by
  intro d
  induction d with
  | zero =>
    intro k hk hes
    obtain rfl : k = T := by omega
    refine Ev.step (fun m => ?_) hR
    conv => lhs; rw [score_Make.l2]
    rw [if_neg (by omega)]
  | succ d ih =>
    intro k hk hes
    have hky : k < y.length := by omega
    have hp := hpos k hky (by omega)
    have hfk := hf y[k] (List.getElem_mem hky)
    have hle : (edges v ((y.take k).map num)).length = k := by unfold edges; rw [List.length_map, List.length_map, List.length_take]; omega
    refine scored_step hy hb hT _ (by rw [List.length_append, hle]; omega) k (by omega) _ (Ev.congr (fun m => ?_) (ih (k + 1) (by omega) hes))
    rw [if_neg (by omega)]
    congr 1
    rw [take_snoc y k hky]
    unfold edges
    rw [List.map_append, ← List.append_assoc]
    congr 1
    simp only [List.map_cons, List.map_nil]
    congr 2
    unfold num; omega
end

theorem holds_cut {n : Nat} {need : Nat → Int} {x : S113} {y : List S113} (hh : Holds n need (x :: y)) {T : Nat} (hT : T ≤ y.length) (hpos : ∀ j (hj : j < y.length), j < T → 0 < y[j].f1) :
    Holds n (after need (num x) ((y.take T).map num)) (cut y T) := by
  have hnd := hh.nodup
  rw [List.map_cons, List.nodup_cons] at hnd
  obtain ⟨v, hv1, hv2, hv3⟩ := hh.node x List.mem_cons_self
  have hnv : num x = v := by unfold num; omega
  have hmap : (cut y T).map S113.f0 = y.map S113.f0 := by
    unfold cut
    rw [List.map_append, List.map_map]
    have : (S113.f0 ∘ dec) = S113.f0 := rfl
    rw [this, ← List.map_append, List.take_append_drop]
  -- a place of the rest
  have place : ∀ q (hq : q < y.length), ∃ i : Nat, i < n ∧ y[q].f0 = i ∧ y[q].f1 = need i ∧ i ≠ num x ∧ (i ∈ (y.take T).map num ↔ q < T) := fun q hq => by
    obtain ⟨i, h1, h2, h3⟩ := hh.node y[q] (List.mem_cons_of_mem _ (List.getElem_mem hq))
    refine ⟨i, h1, h2, h3, fun e => hnd.1 ?_, fun hm => ?_, fun hqT => ?_⟩
    · rw [List.mem_map]
      exact ⟨y[q], List.getElem_mem hq, by omega⟩
    · rw [List.mem_map] at hm
      obtain ⟨z, hz, e⟩ := hm
      obtain ⟨p, hp, e2⟩ := List.getElem_of_mem hz
      rw [List.length_take] at hp
      have e3 : (y.take T)[p]'(by rw [List.length_take]; omega) = y[p]'(by omega) := by simp
      rw [e3] at e2
      obtain ⟨iz, _, hz1, _⟩ := hh.node z (List.mem_cons_of_mem _ (by rw [← e2]; exact List.getElem_mem _))
      by_cases epq : p = q
      · omega
      · exfalso
        have hpw := List.pairwise_iff_getElem.1 hnd.2
        have ef : y[p].f0 = y[q].f0 := by rw [e2]; unfold num at e; omega
        rcases Nat.lt_or_gt_of_ne epq with h | h
        · exact hpw p q (by rw [List.length_map]; omega) (by rw [List.length_map]; omega) h (by rw [List.getElem_map, List.getElem_map]; exact ef)
        · exact hpw q p (by rw [List.length_map]; omega) (by rw [List.length_map]; omega) h (by rw [List.getElem_map, List.getElem_map]; exact ef.symm)
    · rw [List.mem_map]
      refine ⟨y[q], ?_, by unfold num; omega⟩
      have : (y.take T)[q]'(by rw [List.length_take]; omega) = y[q] := by simp
      rw [← this]; exact List.getElem_mem _
  have elem : ∀ q (hq : q < y.length), (cut y T)[q]'(by rw [cut_len]; exact hq) = if q < T then dec y[q] else y[q] := fun q hq => by
    have h1 := cut_get y T q hT
    rw [List.getElem?_eq_getElem (by rw [cut_len]; exact hq), List.getElem?_eq_getElem hq] at h1
    split at h1
    · rename_i h; rw [if_pos h]; exact Option.some.inj h1
    · rename_i h; rw [if_neg h]; exact Option.some.inj h1
  refine ⟨fun z hz => ?_, by rw [hmap]; exact hnd.2, fun i hi hz => ?_⟩
  · obtain ⟨q, hq, e⟩ := List.getElem_of_mem hz
    rw [cut_len] at hq
    obtain ⟨i, h1, h2, h3, h4, h5⟩ := place q hq
    rw [elem q hq] at e
    refine ⟨i, h1, ?_⟩
    unfold after
    rw [if_neg h4]
    by_cases hqT : q < T
    · rw [if_pos hqT] at e
      rw [if_pos (h5.2 hqT), ← e]
      exact ⟨h2, by show y[q].f1 - 1 = _; omega⟩
    · rw [if_neg hqT] at e
      rw [if_neg (fun h => hqT (h5.1 h)), ← e]
      exact ⟨h2, by omega⟩
  · have hiv : i ≠ num x := fun e => hz (by unfold after; rw [if_pos e])
    have hni : need i ≠ 0 := fun e => by
      by_cases hm : i ∈ (y.take T).map num
      · rw [List.mem_map] at hm
        obtain ⟨z, hzm, ez⟩ := hm
        obtain ⟨p, hp, e2⟩ := List.getElem_of_mem hzm
        rw [List.length_take] at hp
        have e3 : (y.take T)[p]'(by rw [List.length_take]; omega) = y[p]'(by omega) := by simp
        rw [e3] at e2
        obtain ⟨iz, _, hz1, hz2⟩ := hh.node z (List.mem_cons_of_mem _ (by rw [← e2]; exact List.getElem_mem _))
        have hp0 := hpos p (by omega) (by omega)
        rw [e2] at hp0
        have : iz = i := by unfold num at ez; omega
        subst this; omega
      · exact hz (by unfold after; rw [if_neg hiv, if_neg hm]; omega)
    obtain ⟨z, hz1, hz2⟩ := hh.all i hi hni
    rcases List.mem_cons.1 hz1 with rfl | hz1
    · exact absurd (by unfold num; omega) hiv
    · obtain ⟨q, hq, e⟩ := List.getElem_of_mem hz1
      refine ⟨(cut y T)[q]'(by rw [cut_len]; exact hq), List.getElem_mem _, ?_⟩
      rw [elem q hq]
      split
      · show y[q].f0 = i; rw [e]; exact hz2
      · rw [e]; exact hz2

end Go.Proofs.Ytoblkmbmacimiaa.L
