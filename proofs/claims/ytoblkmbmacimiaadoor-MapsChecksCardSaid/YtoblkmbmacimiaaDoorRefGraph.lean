/- Plain: what the reference's Has, Near and Degree come to; graphs in which no edge comes twice: a node's degree is the number of its neighbours. -/
import Derived.Test.YtoblkmbmacimiaaDoorMapsCheck
import Derived.Test.YtoblkmbmacimiaaDoorGteamsterrefHas
import Derived.Test.YtoblkmbmacimiaaDoorGteamsterrefNear
import Derived.Test.YtoblkmbmacimiaaDoorGteamsterrefDegree
namespace Go.Proofs.YtoblkmbmacimiaaDoor.L
open Go Go.RowKit Go.Proofs.YtoblkmbmacimiaaDoor.B Go.Proofs.YtoblkmbmacimiaaDoorW.PrintWords Go.Proofs.YtoblkmbmacimiaaDoorW.PrintMore Go.Proofs.YtoblkmbmacimiaaDoor.G

theorem rdI (xs : List Int) (i : Nat) (h : i < xs.length) : rd xs (i : Int) = xs[i] := by
  unfold rd; rw [Int.toNat_natCast, List.getD_eq_getElem?_getD, List.getElem?_eq_getElem h]; rfl

/-! ### Has -/
theorem has_l0 (x : Int) (xs : List Int) (hl : xs.length < 4611686018427387904) : ∀ d i, i + d = xs.length → Ev (fun k => teamsterref_Has.l0 k x xs (xs.length : Int) (i : Int)) (decide (x ∈ xs.drop i)) := by
  intro d
  induction d with
  | zero =>
    intro i hi
    rw [List.drop_eq_nil_of_le (by omega)]
    refine Ev.step (g := fun _ => some false) (fun k => ?_) (.const _)
    rw [teamsterref_Has.l0, if_neg (by omega)]
  | succ d ih =>
    intro i hi
    have hw : wrap64 ((i : Int) + 1) = ((i + 1 : Nat) : Int) := by rw [w64 (by omega) (by omega)]; omega
    have r1 := rdI xs i (by omega)
    rw [List.drop_eq_getElem_cons (show i < xs.length by omega)]
    by_cases h : x = xs[i]'(by omega)
    · rw [decide_eq_true (by rw [h]; exact List.mem_cons_self)]
      refine Ev.step (g := fun _ => some true) (fun k => ?_) (.const _)
      rw [teamsterref_Has.l0, if_pos (by omega), if_pos (by omega), if_pos (by omega), r1, if_pos h]
    · have e : decide (x ∈ xs[i]'(by omega) :: xs.drop (i + 1)) = decide (x ∈ xs.drop (i + 1)) := by rw [decide_eq_decide, List.mem_cons]; exact ⟨fun hh => hh.resolve_left h, .inr⟩
      rw [e]
      refine Ev.step (fun k => ?_) (ih (i + 1) (by omega))
      conv => lhs; rw [teamsterref_Has.l0]
      rw [if_pos (by omega), if_pos (by omega), if_pos (by omega), r1, if_neg h, hw]
theorem has_is (x : Int) (xs : List Int) (hl : xs.length < 4611686018427387904) : Ev (fun k => teamsterref_Has.f k xs x) (decide (x ∈ xs)) := has_l0 x xs hl xs.length 0 (by omega)

/-! ### Near -/
def nearB (l : List S57) (a b : Int) : Bool := l.any fun e => decide (e.f0 = a ∧ e.f1 = b ∨ e.f0 = b ∧ e.f1 = a)
theorem near_ref_l0 (l : List S57) (a b : Int) (hl : l.length ≤ 45) : ∀ d i, i + d = l.length → Ev (fun k => teamsterref_Near.l0 k a b l (l.length : Int) (i : Int)) (nearB (l.drop i) a b) := by
  intro d
  induction d with
  | zero =>
    intro i hi
    rw [List.drop_eq_nil_of_le (by omega)]
    refine Ev.step (g := fun _ => some false) (fun k => ?_) (.const _)
    rw [teamsterref_Near.l0, if_neg (by omega)]
  | succ d ih =>
    intro i hi
    have hw : wrap64 ((i : Int) + 1) = ((i + 1 : Nat) : Int) := by rw [w64 (by omega) (by omega)]; omega
    have r1 := rdT l i (by omega)
    have hih := ih (i + 1) (by omega)
    rw [List.drop_eq_getElem_cons (show i < l.length by omega)]
    generalize l[i]'(by omega) = e at *
    have hv : nearB (e :: l.drop (i + 1)) a b = (decide (e.f0 = a ∧ e.f1 = b ∨ e.f0 = b ∧ e.f1 = a) || nearB (l.drop (i + 1)) a b) := rfl
    rw [hv]
    refine Ev.step (g := fun k => if e.f0 = a ∧ e.f1 = b ∨ e.f0 = b ∧ e.f1 = a then some true else teamsterref_Near.l0 k a b l (l.length : Int) ((i + 1 : Nat) : Int)) (fun k => ?_) ?_
    · conv => lhs; rw [teamsterref_Near.l0]
      rw [if_pos (by omega), if_pos (by omega), if_pos (by omega), r1, hw]
      by_cases h1 : e.f0 = a <;> by_cases h2 : e.f1 = b <;> by_cases h3 : e.f0 = b <;> by_cases h4 : e.f1 = a <;> simp [h1, h2, h3, h4] <;> simp_all
    · by_cases h : e.f0 = a ∧ e.f1 = b ∨ e.f0 = b ∧ e.f1 = a
      · simp only [if_pos h, decide_eq_true h, Bool.true_or]; exact .const _
      · simp only [if_neg h, decide_eq_false h, Bool.false_or]; exact hih
theorem near_ref_is (n : Int) (l : List S57) (a b : Int) (hl : l.length ≤ 45) : Ev (fun k => teamsterref_Near.f k n l a b) (nearB l a b) := near_ref_l0 l a b hl l.length 0 (by omega)

theorem nearB_iff {n : Nat} {l : List S57} (g : Good n l) (v : Nat) (b : Int) : nearB l (v : Int) b = true ↔ ∃ j : Nat, b = j ∧ nbr (E l) v j := by
  unfold nearB nbr E
  rw [List.any_eq_true]
  constructor
  · rintro ⟨e, he, h⟩
    have hg := g.ends e he
    rw [decide_eq_true_eq] at h
    refine ⟨b.toNat, by omega, (e.f0.toNat, e.f1.toNat), List.mem_map.2 ⟨e, he, rfl⟩, ?_⟩
    simp only; omega
  · rintro ⟨j, rfl, e, he, h⟩
    obtain ⟨f, hf, rfl⟩ := List.mem_map.1 he
    have hg := g.ends f hf
    refine ⟨f, hf, ?_⟩
    rw [decide_eq_true_eq]
    simp only at h; omega

/-! ### Degree -/
def deg (es : List (Nat × Nat)) (v : Nat) : Nat := es.countP fun e => decide (e.1 = v ∨ e.2 = v)
theorem degree_l0 {n : Nat} {l : List S57} (g : Good n l) (v : Nat) : ∀ d i, i + d = l.length → ∀ c : Nat, c ≤ i → Ev (fun k => teamsterref_Degree.l0 k (v : Int) (c : Int) l (l.length : Int) (i : Int)) ((c + deg (E (l.drop i)) v : Nat) : Int) := by
  have hl := g.len
  intro d
  induction d with
  | zero =>
    intro i hi c hc
    rw [List.drop_eq_nil_of_le (by omega)]
    refine Ev.step (g := fun _ => some _) (fun k => ?_) (.const _)
    rw [teamsterref_Degree.l0, if_neg (by omega)]
    rfl
  | succ d ih =>
    intro i hi c hc
    have hw : wrap64 ((i : Int) + 1) = ((i + 1 : Nat) : Int) := by rw [w64 (by omega) (by omega)]; omega
    have hc1 : wrap64 ((c : Int) + 1) = ((c + 1 : Nat) : Int) := by rw [w64 (by omega) (by omega)]; omega
    have r1 := rdT l i (by omega)
    have hg := g.ends (l[i]'(by omega)) (List.getElem_mem _)
    rw [List.drop_eq_getElem_cons (show i < l.length by omega)]
    generalize l[i]'(by omega) = e at *
    have hv : deg (E (e :: l.drop (i + 1))) v = deg (E (l.drop (i + 1))) v + if e.f0.toNat = v ∨ e.f1.toNat = v then 1 else 0 := by
      show List.countP _ (_ :: _) = _
      rw [List.countP_cons]
      congr 1
      by_cases h : e.f0.toNat = v ∨ e.f1.toNat = v <;> simp [h]
    rw [hv]
    by_cases h : e.f0.toNat = v ∨ e.f1.toNat = v
    · rw [if_pos h]
      refine Ev.step (fun k => ?_) (show Ev _ ((c + (deg (E (l.drop (i + 1))) v + 1) : Nat) : Int) from (by
        have := ih (i + 1) (by omega) (c + 1) (by omega)
        rw [show c + (deg (E (l.drop (i + 1))) v + 1) = c + 1 + deg (E (l.drop (i + 1))) v by omega]
        exact this))
      conv => lhs; rw [teamsterref_Degree.l0]
      rw [if_pos (by omega), if_pos (by omega), if_pos (by omega), r1, hw, hc1]
      by_cases h0 : e.f0 = v
      · rw [if_pos h0]
      · rw [if_neg h0, if_pos (by omega)]
    · rw [if_neg h, Nat.add_zero]
      refine Ev.step (fun k => ?_) (ih (i + 1) (by omega) c (by omega))
      conv => lhs; rw [teamsterref_Degree.l0]
      rw [if_pos (by omega), if_pos (by omega), if_pos (by omega), r1, hw, if_neg (by omega), if_neg (by omega)]
theorem degree_is {n : Nat} {l : List S57} (g : Good n l) (v : Nat) (m : Int) : Ev (fun k => teamsterref_Degree.f k m l (v : Int)) (deg (E l) v : Int) := by
  have := degree_l0 g v l.length 0 (by omega) 0 (Nat.le_refl _)
  rw [Nat.zero_add, List.drop_zero] at this
  exact this

/-! ### No edge comes twice -/
def SameE (f e : Nat × Nat) : Prop := f.1 = e.1 ∧ f.2 = e.2 ∨ f.1 = e.2 ∧ f.2 = e.1
theorem gchk_apart (n : Int) : ∀ (l pre : List S57), gchk n pre l = 0 → l.Pairwise (fun f e => ¬ (f.f0 = e.f0 ∧ f.f1 = e.f1 ∨ f.f0 = e.f1 ∧ f.f1 = e.f0)) ∧ ∀ f ∈ pre, ∀ e ∈ l, ¬ (f.f0 = e.f0 ∧ f.f1 = e.f1 ∨ f.f0 = e.f1 ∧ f.f1 = e.f0) := by
  intro l
  induction l with
  | nil => intro pre _; exact ⟨List.Pairwise.nil, fun _ _ e he => by cases he⟩
  | cons a t ih =>
    intro pre h
    unfold gchk at h
    split at h
    · cases h
    split at h
    · cases h
    rename_i h2
    split at h
    · cases h
    obtain ⟨h3, h4⟩ := ih _ h
    have hd : dup pre a = false := by
      cases hd : dup pre a
      · rfl
      · exact absurd (.inr hd) h2
    refine ⟨List.Pairwise.cons (fun e he => h4 a (by simp) e he) h3, fun f hf e he => ?_⟩
    rcases List.mem_cons.1 he with rfl | he
    · unfold dup at hd
      have := List.any_eq_false.1 hd f hf
      simpa using this
    · exact h4 f (by simp [hf]) e he
theorem good_apart {n : Nat} {l : List S57} (h : gcheck (n : Int) l = 0) (g : Good n l) : (E l).Pairwise (fun f e => ¬ SameE f e) := by
  unfold gcheck at h
  split at h
  · cases h
  have := (gchk_apart n l [] h).1
  unfold E
  rw [List.pairwise_map]
  refine this.imp_of_mem ?_
  intro a b ha hb hab hs
  have h1 := g.ends a ha
  have h2 := g.ends b hb
  unfold SameE at hs
  simp only at hs
  omega

/-- A node's neighbours, edge by edge. -/
def nlist (es : List (Nat × Nat)) (v : Nat) : List Nat := es.filterMap fun e => if e.1 = v then some e.2 else if e.2 = v then some e.1 else none
theorem mem_nlist (es : List (Nat × Nat)) (v j : Nat) : j ∈ nlist es v ↔ nbr es v j := by
  unfold nlist nbr
  rw [List.mem_filterMap]
  refine exists_congr fun e => and_congr_right fun _ => ?_
  by_cases h1 : e.1 = v
  · rw [if_pos h1, Option.some.injEq]; omega
  · rw [if_neg h1]
    by_cases h2 : e.2 = v
    · rw [if_pos h2, Option.some.injEq]; omega
    · rw [if_neg h2]; simp [h1, h2]
theorem nlist_length (es : List (Nat × Nat)) (v : Nat) : (nlist es v).length = deg es v := by
  induction es with
  | nil => rfl
  | cons e es ih =>
    unfold nlist deg at *
    rw [List.filterMap_cons, List.countP_cons]
    by_cases h1 : e.1 = v
    · simp [h1, ih]
    · by_cases h2 : e.2 = v <;> simp [h1, h2, ih]
theorem nlist_nodup {es : List (Nat × Nat)} (hp : es.Pairwise (fun f e => ¬ SameE f e)) (v : Nat) : (nlist es v).Nodup := by
  induction es with
  | nil => exact List.Pairwise.nil
  | cons e es ih =>
    obtain ⟨h1, h2⟩ := List.pairwise_cons.1 hp
    have hn := ih h2
    have hs : nlist (e :: es) v = (match (if e.1 = v then some e.2 else if e.2 = v then some e.1 else none) with | none => nlist es v | some b => b :: nlist es v) := by
      unfold nlist; rw [List.filterMap_cons]; cases (if e.1 = v then some e.2 else if e.2 = v then some e.1 else none) <;> rfl
    rw [hs]
    by_cases c1 : e.1 = v
    · simp only [if_pos c1]
      refine List.nodup_cons.2 ⟨fun hm => ?_, hn⟩
      obtain ⟨f, hf, hh⟩ := (mem_nlist es v e.2).1 hm
      exact h1 f hf (by unfold SameE; omega)
    · simp only [if_neg c1]
      by_cases c2 : e.2 = v
      · simp only [if_pos c2]
        refine List.nodup_cons.2 ⟨fun hm => ?_, hn⟩
        obtain ⟨f, hf, hh⟩ := (mem_nlist es v e.1).1 hm
        exact h1 f hf (by unfold SameE; omega)
      · simp only [if_neg c2]; exact hn

theorem bits_nodup (u : Nat) (hu : u < 4294967296) : (bitsOf u).Nodup := (bitsOf_sorted u hu).imp fun h => by omega
theorem bits_perm {es : List (Nat × Nat)} (hp : es.Pairwise (fun f e => ¬ SameE f e)) (v : Nat) (hu : nbword es v < 4294967296) : (bitsOf (nbword es v)).Perm (nlist es v) :=
  (List.perm_ext_iff_of_nodup (bits_nodup _ hu) (nlist_nodup hp v)).2 fun j => by rw [mem_bitsOf _ hu, nbword_bit, mem_nlist]

/-- Is a round's list right, as the reference asks? -/
def rowOk (l : List S57) (v : Nat) (row : List Int) : Prop := (row.length : Int) = deg (E l) v ∧ row.Nodup ∧ ∀ j ∈ row, nearB l (v : Int) j = true
theorem row_iff {n : Nat} {l : List S57} (g : Good n l) (hp : (E l).Pairwise (fun f e => ¬ SameE f e)) (v : Nat) (hu : nbword (E l) v < 4294967296) (row : List Int) : rowOk l v row ↔ srt row = ints (bitsOf (nbword (E l) v)) := by
  have hbn := bits_nodup _ hu
  have hin : (ints (bitsOf (nbword (E l) v))).Nodup := by
    unfold ints
    rw [List.Nodup, List.pairwise_map]
    exact hbn.imp fun h hh => h (by omega)
  have hlen : (bitsOf (nbword (E l) v)).length = deg (E l) v := by rw [(bits_perm hp v hu).length_eq, nlist_length]
  have hmem : ∀ x : Int, x ∈ ints (bitsOf (nbword (E l) v)) ↔ nearB l (v : Int) x = true := fun x => by
    rw [nearB_iff g]
    unfold ints
    rw [List.mem_map]
    constructor
    · rintro ⟨j, hj, rfl⟩
      exact ⟨j, rfl, (nbword_bit v _ j).1 ((mem_bitsOf _ hu j).1 hj)⟩
    · rintro ⟨j, rfl, hj⟩
      exact ⟨j, (mem_bitsOf _ hu j).2 ((nbword_bit v _ j).2 hj), rfl⟩
  have hil : (ints (bitsOf (nbword (E l) v))).length = deg (E l) v := by unfold ints; rw [List.length_map, hlen]
  have hperm := List.mergeSort_perm row (fun x y => decide (x ≤ y))
  constructor
  · rintro ⟨h1, h2, h3⟩
    have hsub : ∀ x ∈ row, x ∈ ints (bitsOf (nbword (E l) v)) := fun x hx => (hmem x).2 (h3 x hx)
    have hpr : row.Perm (ints (bitsOf (nbword (E l) v))) := by
      refine (List.perm_ext_iff_of_nodup h2 hin).2 fun x => ⟨hsub x, fun hx => ?_⟩
      refine Classical.byContradiction fun hn => ?_
      have h4 : (x :: row).Nodup := List.nodup_cons.2 ⟨hn, h2⟩
      have := List.Nodup.length_le_of_subset h4 (l₂ := ints (bitsOf (nbword (E l) v))) fun y hy => by
        rcases List.mem_cons.1 hy with rfl | hy
        · exact hx
        · exact hsub y hy
      rw [List.length_cons] at this
      omega
    refine List.Perm.eq_of_pairwise (le := fun x y : Int => x ≤ y) (fun a b _ _ h5 h6 => by omega) ?_ ?_ (hperm.trans hpr)
    · have := List.pairwise_mergeSort (le := fun x y : Int => decide (x ≤ y)) (fun a b c h7 h8 => by simp at *; omega) (fun a b => by simp; omega) row
      exact this.imp fun h => by simpa using h
    · unfold ints
      rw [List.pairwise_map]
      exact (bitsOf_sorted _ hu).imp fun h => by omega
  · intro h
    have hpr : row.Perm (ints (bitsOf (nbword (E l) v))) := by rw [← h]; exact hperm.symm
    exact ⟨by rw [hpr.length_eq, hil], hpr.nodup_iff.2 hin, fun j hj => (hmem j).1 (hpr.mem_iff.1 hj)⟩

end Go.Proofs.YtoblkmbmacimiaaDoor.L
