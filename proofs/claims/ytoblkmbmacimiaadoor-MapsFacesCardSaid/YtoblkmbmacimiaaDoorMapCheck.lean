/- Plain: what the reference's Has, Near and Degree come to; graphs in which no edge comes twice: a node's degree is the number of its neighbours. Plain: what the reference's check of a map comes to: what maps.Check tells. -/
import Derived.Test.YtoblkmbmacimiaaDoorMapsCheck
import Derived.Test.YtoblkmbmacimiaaDoorGteamsterrefHas
import Derived.Test.YtoblkmbmacimiaaDoorGteamsterrefNear
import Derived.Test.YtoblkmbmacimiaaDoorGteamsterrefDegree
import Derived.Test.YtoblkmbmacimiaaDoorGteamsterrefMapCheck

namespace Go.Proofs.YtoblkmbmacimiaaDoor.L
open Go Go.RowKit Go.Proofs.YtoblkmbmacimiaaDoor.B Go.Proofs.YtoblkmbmacimiaaDoorW.PrintWords Go.Proofs.YtoblkmbmacimiaaDoorW.PrintMore Go.Proofs.YtoblkmbmacimiaaDoor.G

theorem rdI (xs : List Int) (i : Nat) (h : i < xs.length) : rd xs (i : Int) = xs[i] := by
  unfold rd; rw [Int.toNat_natCast, List.getD_eq_getElem?_getD, List.getElem?_eq_getElem h]; rfl

/-! ### Has -/
theorem has_l0 (x : Int) (xs : List Int) (hl : xs.length < 4611686018427387904) : ∀ d i, i + d = xs.length → Ev (fun k => teamsterref_Has.l0 k x xs (xs.length : Int) (i : Int)) (decide (x ∈ xs.drop i)) := by
  intro d
  induction d with
  | zero =>
    intro i hi
    rw [List.drop_eq_nil_of_le (by omega)]
    refine Ev.step (g := fun _ => some false) (fun k => ?_) (.const _)
    rw [teamsterref_Has.l0, if_neg (by omega)]
  | succ d ih =>
    intro i hi
    have hw : wrap64 ((i : Int) + 1) = ((i + 1 : Nat) : Int) := by rw [w64 (by omega) (by omega)]; omega
    have r1 := rdI xs i (by omega)
    rw [List.drop_eq_getElem_cons (show i < xs.length by omega)]
    by_cases h : x = xs[i]'(by omega)
    · rw [decide_eq_true (by rw [h]; exact List.mem_cons_self)]
      refine Ev.step (g := fun _ => some true) (fun k => ?_) (.const _)
      rw [teamsterref_Has.l0, if_pos (by omega), if_pos (by omega), if_pos (by omega), r1, if_pos h]
    · have e : decide (x ∈ xs[i]'(by omega) :: xs.drop (i + 1)) = decide (x ∈ xs.drop (i + 1)) := by rw [decide_eq_decide, List.mem_cons]; exact ⟨fun hh => hh.resolve_left h, .inr⟩
      rw [e]
      refine Ev.step (fun k => ?_) (ih (i + 1) (by omega))
      conv => lhs; rw [teamsterref_Has.l0]
      rw [if_pos (by omega), if_pos (by omega), if_pos (by omega), r1, if_neg h, hw]
theorem has_is (x : Int) (xs : List Int) (hl : xs.length < 4611686018427387904) : Ev (fun k => teamsterref_Has.f k xs x) (decide (x ∈ xs)) := has_l0 x xs hl xs.length 0 (by omega)

/-! ### Near -/
def nearB (l : List S57) (a b : Int) : Bool := l.any fun e => decide (e.f0 = a ∧ e.f1 = b ∨ e.f0 = b ∧ e.f1 = a)
theorem near_ref_l0 (l : List S57) (a b : Int) (hl : l.length ≤ 45) : ∀ d i, i + d = l.length → Ev (fun k => teamsterref_Near.l0 k a b l (l.length : Int) (i : Int)) (nearB (l.drop i) a b) := by
  intro d
  induction d with
  | zero =>
    intro i hi
    rw [List.drop_eq_nil_of_le (by omega)]
    refine Ev.step (g := fun _ => some false) (fun k => ?_) (.const _)
    rw [teamsterref_Near.l0, if_neg (by omega)]
  | succ d ih =>
    intro i hi
    have hw : wrap64 ((i : Int) + 1) = ((i + 1 : Nat) : Int) := by rw [w64 (by omega) (by omega)]; omega
    have r1 := rdT l i (by omega)
    have hih := ih (i + 1) (by omega)
    rw [List.drop_eq_getElem_cons (show i < l.length by omega)]
    generalize l[i]'(by omega) = e at *
    have hv : nearB (e :: l.drop (i + 1)) a b = (decide (e.f0 = a ∧ e.f1 = b ∨ e.f0 = b ∧ e.f1 = a) || nearB (l.drop (i + 1)) a b) := rfl
    rw [hv]
    refine Ev.step (g := fun k => if e.f0 = a ∧ e.f1 = b ∨ e.f0 = b ∧ e.f1 = a then some true else teamsterref_Near.l0 k a b l (l.length : Int) ((i + 1 : Nat) : Int)) (fun k => ?_) ?_
    · conv => lhs; rw [teamsterref_Near.l0]
      rw [if_pos (by omega), if_pos (by omega), if_pos (by omega), r1, hw]
      by_cases h1 : e.f0 = a <;> by_cases h2 : e.f1 = b <;> by_cases h3 : e.f0 = b <;> by_cases h4 : e.f1 = a <;> simp [h1, h2, h3, h4] <;> simp_all
    · by_cases h : e.f0 = a ∧ e.f1 = b ∨ e.f0 = b ∧ e.f1 = a
      · simp only [if_pos h, decide_eq_true h, Bool.true_or]; exact .const _
      · simp only [if_neg h, decide_eq_false h, Bool.false_or]; exact hih
theorem near_ref_is (n : Int) (l : List S57) (a b : Int) (hl : l.length ≤ 45) : Ev (fun k => teamsterref_Near.f k n l a b) (nearB l a b) := near_ref_l0 l a b hl l.length 0 (by omega)

theorem nearB_iff {n : Nat} {l : List S57} (g : Good n l) (v : Nat) (b : Int) : nearB l (v : Int) b = true ↔ ∃ j : Nat, b = j ∧ nbr (E l) v j := by
  unfold nearB nbr E
  rw [List.any_eq_true]
  constructor
  · rintro ⟨e, he, h⟩
    have hg := g.ends e he
    rw [decide_eq_true_eq] at h
    refine ⟨b.toNat, by omega, (e.f0.toNat, e.f1.toNat), List.mem_map.2 ⟨e, he, rfl⟩, ?_⟩
    simp only; omega
  · rintro ⟨j, rfl, e, he, h⟩
    obtain ⟨f, hf, rfl⟩ := List.mem_map.1 he
    have hg := g.ends f hf
    refine ⟨f, hf, ?_⟩
    rw [decide_eq_true_eq]
    simp only at h; omega

/-! ### Degree -/
def deg (es : List (Nat × Nat)) (v : Nat) : Nat := es.countP fun e => decide (e.1 = v ∨ e.2 = v)
theorem degree_l0 {n : Nat} {l : List S57} (g : Good n l) (v : Nat) : ∀ d i, i + d = l.length → ∀ c : Nat, c ≤ i → Ev (fun k => teamsterref_Degree.l0 k (v : Int) (c : Int) l (l.length : Int) (i : Int)) ((c + deg (E (l.drop i)) v : Nat) : Int) := by
  have hl := g.len
  intro d
  induction d with
  | zero =>
    intro i hi c hc
    rw [List.drop_eq_nil_of_le (by omega)]
    refine Ev.step (g := fun _ => some _) (fun k => ?_) (.const _)
    rw [teamsterref_Degree.l0, if_neg (by omega)]
    rfl
  | succ d ih =>
    intro i hi c hc
    have hw : wrap64 ((i : Int) + 1) = ((i + 1 : Nat) : Int) := by rw [w64 (by omega) (by omega)]; omega
    have hc1 : wrap64 ((c : Int) + 1) = ((c + 1 : Nat) : Int) := by rw [w64 (by omega) (by omega)]; omega
    have r1 := rdT l i (by omega)
    have hg := g.ends (l[i]'(by omega)) (List.getElem_mem _)
    rw [List.drop_eq_getElem_cons (show i < l.length by omega)]
    generalize l[i]'(by omega) = e at *
    have hv : deg (E (e :: l.drop (i + 1))) v = deg (E (l.drop (i + 1))) v + if e.f0.toNat = v ∨ e.f1.toNat = v then 1 else 0 := by
      show List.countP _ (_ :: _) = _
      rw [List.countP_cons]
      congr 1
      by_cases h : e.f0.toNat = v ∨ e.f1.toNat = v <;> simp [h]
    rw [hv]
    by_cases h : e.f0.toNat = v ∨ e.f1.toNat = v
    · rw [if_pos h]
      refine Ev.step (fun k => ?_) (show Ev _ ((c + (deg (E (l.drop (i + 1))) v + 1) : Nat) : Int) from (by
        have := ih (i + 1) (by omega) (c + 1) (by omega)
        rw [show c + (deg (E (l.drop (i + 1))) v + 1) = c + 1 + deg (E (l.drop (i + 1))) v by omega]
        exact this))
      conv => lhs; rw [teamsterref_Degree.l0]
      rw [if_pos (by omega), if_pos (by omega), if_pos (by omega), r1, hw, hc1]
      by_cases h0 : e.f0 = v
      · rw [if_pos h0]
      · rw [if_neg h0, if_pos (by omega)]
    · rw [if_neg h, Nat.add_zero]
      refine Ev.step (fun k => ?_) (ih (i + 1) (by omega) c (by omega))
      conv => lhs; rw [teamsterref_Degree.l0]
      rw [if_pos (by omega), if_pos (by omega), if_pos (by omega), r1, hw, if_neg (by omega), if_neg (by omega)]
theorem degree_is {n : Nat} {l : List S57} (g : Good n l) (v : Nat) (m : Int) : Ev (fun k => teamsterref_Degree.f k m l (v : Int)) (deg (E l) v : Int) := by
  have := degree_l0 g v l.length 0 (by omega) 0 (Nat.le_refl _)
  rw [Nat.zero_add, List.drop_zero] at this
  exact this

/-! ### No edge comes twice -/
def SameE (f e : Nat × Nat) : Prop := f.1 = e.1 ∧ f.2 = e.2 ∨ f.1 = e.2 ∧ f.2 = e.1
theorem gchk_apart (n : Int) : ∀ (l pre : List S57), gchk n pre l = 0 → l.Pairwise (fun f e => ¬ (f.f0 = e.f0 ∧ f.f1 = e.f1 ∨ f.f0 = e.f1 ∧ f.f1 = e.f0)) ∧ ∀ f ∈ pre, ∀ e ∈ l, ¬ (f.f0 = e.f0 ∧ f.f1 = e.f1 ∨ f.f0 = e.f1 ∧ f.f1 = e.f0) := by
  intro l
  induction l with
  | nil => intro pre _; exact ⟨List.Pairwise.nil, fun _ _ e he => by cases he⟩
  | cons a t ih =>
    intro pre h
    unfold gchk at h
    split at h
    · cases h
    split at h
    · cases h
    rename_i h2
    split at h
    · cases h
    obtain ⟨h3, h4⟩ := ih _ h
    have hd : dup pre a = false := by
      cases hd : dup pre a
      · rfl
      · exact absurd (.inr hd) h2
    refine ⟨List.Pairwise.cons (fun e he => h4 a (by simp) e he) h3, fun f hf e he => ?_⟩
    rcases List.mem_cons.1 he with rfl | he
    · unfold dup at hd
      have := List.any_eq_false.1 hd f hf
      simpa using this
    · exact h4 f (by simp [hf]) e he
theorem good_apart {n : Nat} {l : List S57} (h : gcheck (n : Int) l = 0) (g : Good n l) : (E l).Pairwise (fun f e => ¬ SameE f e) := by
  unfold gcheck at h
  split at h
  · cases h
  have := (gchk_apart n l [] h).1
  unfold E
  rw [List.pairwise_map]
  refine this.imp_of_mem ?_
  intro a b ha hb hab hs
  have h1 := g.ends a ha
  have h2 := g.ends b hb
  unfold SameE at hs
  simp only at hs
  omega

/-- A node's neighbours, edge by edge. -/
def nlist (es : List (Nat × Nat)) (v : Nat) : List Nat := es.filterMap fun e => if e.1 = v then some e.2 else if e.2 = v then some e.1 else none
theorem mem_nlist (es : List (Nat × Nat)) (v j : Nat) : j ∈ nlist es v ↔ nbr es v j := by
  unfold nlist nbr
  rw [List.mem_filterMap]
  refine exists_congr fun e => and_congr_right fun _ => ?_
  by_cases h1 : e.1 = v
  · rw [if_pos h1, Option.some.injEq]; omega
  · rw [if_neg h1]
    by_cases h2 : e.2 = v
    · rw [if_pos h2, Option.some.injEq]; omega
    · rw [if_neg h2]; simp [h1, h2]
theorem nlist_length (es : List (Nat × Nat)) (v : Nat) : (nlist es v).length = deg es v := by
  induction es with
  | nil => rfl
  | cons e es ih =>
    unfold nlist deg at *
    rw [List.filterMap_cons, List.countP_cons]
    by_cases h1 : e.1 = v
    · simp [h1, ih]
    · by_cases h2 : e.2 = v <;> simp [h1, h2, ih]
theorem nlist_nodup {es : List (Nat × Nat)} (hp : es.Pairwise (fun f e => ¬ SameE f e)) (v : Nat) : (nlist es v).Nodup := by
  induction es with
  | nil => exact List.Pairwise.nil
  | cons e es ih =>
    obtain ⟨h1, h2⟩ := List.pairwise_cons.1 hp
    have hn := ih h2
    have hs : nlist (e :: es) v = (match (if e.1 = v then some e.2 else if e.2 = v then some e.1 else none) with | none => nlist es v | some b => b :: nlist es v) := by
      unfold nlist; rw [List.filterMap_cons]; cases (if e.1 = v then some e.2 else if e.2 = v then some e.1 else none) <;> rfl
    rw [hs]
    by_cases c1 : e.1 = v
    · simp only [if_pos c1]
      refine List.nodup_cons.2 ⟨fun hm => ?_, hn⟩
      obtain ⟨f, hf, hh⟩ := (mem_nlist es v e.2).1 hm
      exact h1 f hf (by unfold SameE; omega)
    · simp only [if_neg c1]
      by_cases c2 : e.2 = v
      · simp only [if_pos c2]
        refine List.nodup_cons.2 ⟨fun hm => ?_, hn⟩
        obtain ⟨f, hf, hh⟩ := (mem_nlist es v e.1).1 hm
        exact h1 f hf (by unfold SameE; omega)
      · simp only [if_neg c2]; exact hn

theorem bits_nodup (u : Nat) (hu : u < 4294967296) : (bitsOf u).Nodup := (bitsOf_sorted u hu).imp fun h => by omega
theorem bits_perm {es : List (Nat × Nat)} (hp : es.Pairwise (fun f e => ¬ SameE f e)) (v : Nat) (hu : nbword es v < 4294967296) : (bitsOf (nbword es v)).Perm (nlist es v) :=
  (List.perm_ext_iff_of_nodup (bits_nodup _ hu) (nlist_nodup hp v)).2 fun j => by rw [mem_bitsOf _ hu, nbword_bit, mem_nlist]

/-- Is a round's list right, as the reference asks? -/
def rowOk (l : List S57) (v : Nat) (row : List Int) : Prop := (row.length : Int) = deg (E l) v ∧ row.Nodup ∧ ∀ j ∈ row, nearB l (v : Int) j = true
theorem row_iff {n : Nat} {l : List S57} (g : Good n l) (hp : (E l).Pairwise (fun f e => ¬ SameE f e)) (v : Nat) (hu : nbword (E l) v < 4294967296) (row : List Int) : rowOk l v row ↔ srt row = ints (bitsOf (nbword (E l) v)) := by
  have hbn := bits_nodup _ hu
  have hin : (ints (bitsOf (nbword (E l) v))).Nodup := by
    unfold ints
    rw [List.Nodup, List.pairwise_map]
    exact hbn.imp fun h hh => h (by omega)
  have hlen : (bitsOf (nbword (E l) v)).length = deg (E l) v := by rw [(bits_perm hp v hu).length_eq, nlist_length]
  have hmem : ∀ x : Int, x ∈ ints (bitsOf (nbword (E l) v)) ↔ nearB l (v : Int) x = true := fun x => by
    rw [nearB_iff g]
    unfold ints
    rw [List.mem_map]
    constructor
    · rintro ⟨j, hj, rfl⟩
      exact ⟨j, rfl, (nbword_bit v _ j).1 ((mem_bitsOf _ hu j).1 hj)⟩
    · rintro ⟨j, rfl, hj⟩
      exact ⟨j, (mem_bitsOf _ hu j).2 ((nbword_bit v _ j).2 hj), rfl⟩
  have hil : (ints (bitsOf (nbword (E l) v))).length = deg (E l) v := by unfold ints; rw [List.length_map, hlen]
  have hperm := List.mergeSort_perm row (fun x y => decide (x ≤ y))
  constructor
  · rintro ⟨h1, h2, h3⟩
    have hsub : ∀ x ∈ row, x ∈ ints (bitsOf (nbword (E l) v)) := fun x hx => (hmem x).2 (h3 x hx)
    have hpr : row.Perm (ints (bitsOf (nbword (E l) v))) := by
      refine (List.perm_ext_iff_of_nodup h2 hin).2 fun x => ⟨hsub x, fun hx => ?_⟩
      refine Classical.byContradiction fun hn => ?_
      have h4 : (x :: row).Nodup := List.nodup_cons.2 ⟨hn, h2⟩
      have := List.Nodup.length_le_of_subset h4 (l₂ := ints (bitsOf (nbword (E l) v))) fun y hy => by
        rcases List.mem_cons.1 hy with rfl | hy
        · exact hx
        · exact hsub y hy
      rw [List.length_cons] at this
      omega
    refine List.Perm.eq_of_pairwise (le := fun x y : Int => x ≤ y) (fun a b _ _ h5 h6 => by omega) ?_ ?_ (hperm.trans hpr)
    · have := List.pairwise_mergeSort (le := fun x y : Int => decide (x ≤ y)) (fun a b c h7 h8 => by simp at *; omega) (fun a b => by simp; omega) row
      exact this.imp fun h => by simpa using h
    · unfold ints
      rw [List.pairwise_map]
      exact (bitsOf_sorted _ hu).imp fun h => by omega
  · intro h
    have hpr : row.Perm (ints (bitsOf (nbword (E l) v))) := by rw [← h]; exact hperm.symm
    exact ⟨by rw [hpr.length_eq, hil], hpr.nodup_iff.2 hin, fun j hj => (hmem j).1 (hpr.mem_iff.1 hj)⟩

end Go.Proofs.YtoblkmbmacimiaaDoor.L

namespace Go.Proofs.YtoblkmbmacimiaaDoor.L
open Go Go.RowKit Go.Proofs.YtoblkmbmacimiaaDoor.B Go.Proofs.YtoblkmbmacimiaaDoorW.PrintWords Go.Proofs.YtoblkmbmacimiaaDoorW.PrintMore Go.Proofs.YtoblkmbmacimiaaDoor.G

/-- From an element on. -/
def okFrom (l : List S57) (v : Nat) : List Int → List Int → Bool
  | _, [] => true
  | pre, x :: t => !decide (x ∈ pre) && (nearB l (v : Int) x && okFrom l v (pre ++ [x]) t)
theorem okFrom_iff (l : List S57) (v : Nat) : ∀ (t pre : List Int), pre.Nodup → (okFrom l v pre t = true ↔ (pre ++ t).Nodup ∧ ∀ j ∈ t, nearB l (v : Int) j = true) := by
  intro t
  induction t with
  | nil => intro pre hp; simp [okFrom, hp]
  | cons x t ih =>
    intro pre hp
    unfold okFrom
    rw [Bool.and_eq_true, Bool.and_eq_true, Bool.not_eq_true', decide_eq_false_iff_not]
    constructor
    · rintro ⟨h1, h2, h3⟩
      have hp2 : (pre ++ [x]).Nodup := List.nodup_append.2 ⟨hp, by simp, fun a ha b hb e => by rw [List.mem_singleton] at hb; subst hb; subst e; exact h1 ha⟩
      obtain ⟨h4, h5⟩ := (ih _ hp2).1 h3
      rw [List.append_assoc] at h4
      refine ⟨h4, fun j hj => ?_⟩
      rcases List.mem_cons.1 hj with rfl | hj
      · exact h2
      · exact h5 j hj
    · rintro ⟨h1, h2⟩
      have h3 := (List.nodup_append.1 h1).2.2
      have hx : x ∉ pre := fun hh => h3 x hh x List.mem_cons_self rfl
      have hp2 : (pre ++ [x]).Nodup := List.nodup_append.2 ⟨hp, by simp, fun a ha b hb e => by rw [List.mem_singleton] at hb; subst hb; subst e; exact hx ha⟩
      refine ⟨hx, h2 x List.mem_cons_self, (ih _ hp2).2 ⟨by rw [List.append_assoc]; exact h1, fun j hj => h2 j (List.mem_cons_of_mem _ hj)⟩⟩

theorem map_l1 {n : Nat} {l : List S57} (g : Good n l) (round : List (List Int)) (i : Nat) (R : Int)
    (row : List Int) (hl : row.length < 4611686018427387904)
    (next : okFrom l i [] row = true → Ev (fun k => teamsterref_MapCheck.l0 k round (round.length : Int) (wrap64 ((i : Int) + 1)) (n : Int) l) R) (hno : okFrom l i [] row = false → R = 3) :
    ∀ d j, j + d = row.length → okFrom l i [] row = okFrom l i (row.take j) (row.drop j) → Ev (fun k => teamsterref_MapCheck.l1 k (i : Int) row round (round.length : Int) (i : Int) row (row.length : Int) (j : Int) (n : Int) l) R := by
  intro d
  induction d with
  | zero =>
    intro j hj he
    rw [List.drop_eq_nil_of_le (by omega)] at he
    refine Ev.step (fun k => ?_) (next (by rw [he]; rfl))
    conv => lhs; rw [teamsterref_MapCheck.l1]
    rw [if_neg (by omega)]
  | succ d ih =>
    intro j hj he
    have hw : wrap64 ((j : Int) + 1) = ((j + 1 : Nat) : Int) := by rw [w64 (by omega) (by omega)]; omega
    have r1 := rdI row j (by omega)
    have htk : row.take (j + 1) = row.take j ++ [row[j]'(by omega)] := by rw [List.take_add_one, List.getElem?_eq_getElem (by omega)]; rfl
    rw [List.drop_eq_getElem_cons (show j < row.length by omega), okFrom, ← htk] at he
    have hh := has_is (row[j]'(by omega)) (row.take j) (by rw [List.length_take]; omega)
    have hn := near_ref_is (n : Int) l (i : Int) (row[j]'(by omega)) g.len
    have hih := ih (j + 1) (by omega)
    generalize row[j]'(by omega) = x at *
    refine Ev.step (g := fun k => (teamsterref_Has.f k (row.take j) x).bind fun t => if t = true then some 3 else (teamsterref_Near.f k (n : Int) l (i : Int) x).bind fun t2 => if t2 = true then teamsterref_MapCheck.l1 k (i : Int) row round (round.length : Int) (i : Int) row (row.length : Int) ((j + 1 : Nat) : Int) (n : Int) l else some 3) (fun k => ?_) (Ev.bind hh ?_)
    · conv => lhs; rw [teamsterref_MapCheck.l1]
      rw [if_pos (by omega), if_pos (by omega), if_pos (by omega), if_pos (by omega), r1, hw, Int.toNat_natCast]
    · by_cases h1 : x ∈ row.take j
      · rw [decide_eq_true h1] at he ⊢
        rw [hno (by rw [he]; rfl)]
        exact .of_eq fun _ => rfl
      · rw [decide_eq_false h1] at he ⊢
        simp only [Bool.false_eq_true, if_false]
        refine Ev.bind hn ?_
        cases h2 : nearB l (i : Int) x
        · rw [h2] at he
          rw [hno (by rw [he]; rfl)]
          exact .of_eq fun _ => rfl
        · rw [h2] at he
          simp only [if_true]
          exact hih (by rw [he]; rfl)

theorem rd4 (round : List (List Int)) (i : Nat) (h : i < round.length) : rd_L4 round (i : Int) = round[i] := by
  unfold rd_L4; rw [Int.toNat_natCast, List.getD_eq_getElem?_getD, List.getElem?_eq_getElem h]; rfl

open Classical in
noncomputable def restOk (l : List S57) (round : List (List Int)) (i : Nat) : Bool := decide (∀ v, i ≤ v → v < round.length → rowOk l v (rd_L4 round (v : Int)))

theorem restOk_iff (l : List S57) (round : List (List Int)) (i : Nat) : restOk l round i = true ↔ ∀ v, i ≤ v → v < round.length → rowOk l v (rd_L4 round (v : Int)) := by
  unfold restOk; exact @decide_eq_true_iff _ (Classical.propDecidable _)
theorem nbr_lt10 {n : Nat} {l : List S57} (g : Good n l) {i j : Nat} (h : nbr (E l) i j) : j < n := by
  obtain ⟨e, he, hc⟩ := h
  unfold E at he
  obtain ⟨f, hf, rfl⟩ := List.mem_map.1 he
  have := g.ends f hf
  simp only at hc; omega

theorem map_l0 {n : Nat} {l : List S57} (g : Good n l) (round : List (List Int)) (hrl : round.length ≤ 10) (hl : ∀ r ∈ round, r.length < 4611686018427387904) : ∀ d i, i + d = round.length → Ev (fun k => teamsterref_MapCheck.l0 k round (round.length : Int) (i : Int) (n : Int) l) (if restOk l round i = true then 0 else 3) := by
  intro d
  induction d with
  | zero =>
    intro i hi
    have : restOk l round i = true := (restOk_iff _ _ _).2 fun v h1 h2 => by omega
    rw [if_pos this]
    refine Ev.step (g := fun _ => some 0) (fun k => ?_) (.const _)
    rw [teamsterref_MapCheck.l0, if_neg (by omega)]
  | succ d ih =>
    intro i hi
    have hw : wrap64 ((i : Int) + 1) = ((i + 1 : Nat) : Int) := by rw [w64 (by omega) (by omega)]; omega
    have hih := ih (i + 1) (by omega)
    have hrow := hl (rd_L4 round (i : Int)) (by rw [rd4 round i (by omega)]; exact List.getElem_mem _)
    have hstep : restOk l round i = true ↔ rowOk l i (rd_L4 round (i : Int)) ∧ restOk l round (i + 1) = true := by
      rw [restOk_iff, restOk_iff]
      constructor
      · intro h; exact ⟨h i (Nat.le_refl _) (by omega), fun v h1 h2 => h v (by omega) h2⟩
      · rintro ⟨h1, h2⟩ v h3 h4
        by_cases e : v = i
        · subst e; exact h1
        · exact h2 v (by omega) h4
    refine Ev.step (g := fun k => (teamsterref_Degree.f k (n : Int) l (i : Int)).bind fun t => if ((rd_L4 round (i : Int)).length : Int) = t then teamsterref_MapCheck.l1 k (i : Int) (rd_L4 round (i : Int)) round (round.length : Int) (i : Int) (rd_L4 round (i : Int)) ((rd_L4 round (i : Int)).length : Int) 0 (n : Int) l else some 3) (fun k => ?_) (Ev.bind (degree_is g i (n : Int)) ?_)
    · conv => lhs; rw [teamsterref_MapCheck.l0]
      rw [if_pos (by omega), if_pos (by omega), if_pos (by omega)]
    · by_cases hd : ((rd_L4 round (i : Int)).length : Int) = deg (E l) i
      · simp only [if_pos hd]
        have hiff := okFrom_iff l i (rd_L4 round (i : Int)) [] List.nodup_nil
        rw [List.nil_append] at hiff
        refine map_l1 g round i _ (rd_L4 round (i : Int)) hrow (fun ht => ?_) (fun hf => ?_) (rd_L4 round (i : Int)).length 0 (by omega) (by simp)
        · have hok : rowOk l i (rd_L4 round (i : Int)) := ⟨hd, hiff.1 ht⟩
          rw [hw]
          by_cases hr : restOk l round (i + 1) = true
          · rw [if_pos (hstep.2 ⟨hok, hr⟩)]; rw [if_pos hr] at hih; exact hih
          · rw [if_neg fun hh => hr (hstep.1 hh).2]; rw [if_neg hr] at hih; exact hih
        · rw [if_neg]
          intro hh
          have := hiff.2 (hstep.1 hh).1.2
          rw [hf] at this; cases this
      · simp only [if_neg hd]
        rw [if_neg fun hh => hd (hstep.1 hh).1.1]
        exact .of_eq fun _ => rfl

/-- Both say the same. -/
theorem map_check_is (n : Int) (l : List S57) (round : List (List Int)) (hl : ∀ r ∈ round, r.length * 8 ≤ 140737488355328) : ∃ r, maps_Check.f n l round = some r ∧ Ev (fun k => teamsterref_MapCheck.f k n l round) r := by
  unfold maps_Check.f
  by_cases hc : gcheck n l = 0
  · rw [if_neg (fun h => h hc)]
    have hgc := gc_is n l
    rw [hc] at hgc
    by_cases hrl : (round.length : Int) = n
    · rw [if_neg (fun h => h hrl), if_pos hl]
      obtain ⟨m, rfl, g⟩ := good_of hc
      refine ⟨_, rfl, ?_⟩
      unfold teamsterref_MapCheck.f
      refine Ev.bind hgc ?_
      simp only [if_true, if_pos hrl]
      have h10 := g.n10
      have h := map_l0 g round (by omega) (fun r hr => by have := hl r hr; omega) round.length 0 (by omega)
      have hp := good_apart hc g
      have he : ((List.range ((m : Int)).toNat).all (roundB (E l) round) = true) ↔ restOk l round 0 = true := by
        rw [Int.toNat_natCast, List.all_eq_true]
        unfold roundB
        rw [restOk_iff]
        have hu : ∀ v, v < m → nbword (E l) v < 4294967296 := fun v hv => by
          refine Nat.lt_of_lt_of_le (Nat.lt_pow_two_of_testBit (n := 10) _ fun i hi => ?_) (by decide)
          cases hb : (nbword (E l) v).testBit i
          · rfl
          · have := nbr_lt10 g ((nbword_bit v _ i).1 hb); omega
        constructor
        · intro h1 v _ h2
          exact (row_iff g hp v (hu v (by omega)) _).2 (by simpa using h1 v (List.mem_range.2 (by omega)))
        · intro h1 v hv
          rw [decide_eq_true_eq]
          have := List.mem_range.1 hv
          exact (row_iff g hp v (hu v (by omega)) _).1 (h1 v (Nat.zero_le _) (by omega))
      by_cases hr : restOk l round 0 = true
      · rw [if_pos (he.2 hr)]; rw [if_pos hr] at h; exact h
      · rw [if_neg fun hh => hr (he.1 hh)]; rw [if_neg hr] at h; exact h
    · rw [if_pos hrl]
      refine ⟨_, rfl, ?_⟩
      unfold teamsterref_MapCheck.f
      refine Ev.bind hgc ?_
      simp only [if_true, if_neg hrl]
      exact .of_eq fun _ => rfl
  · rw [if_pos hc]
    refine ⟨_, rfl, ?_⟩
    unfold teamsterref_MapCheck.f
    refine Ev.bind (gc_is n l) ?_
    simp only [if_neg hc]
    exact .of_eq fun _ => rfl

end Go.Proofs.YtoblkmbmacimiaaDoor.L
