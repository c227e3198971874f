/- The function teamsterref_Faces as a Lean function, and the proof that its call comes to it: written by a program for this claim. -/
import Derived.Test.YtoblkmbmacimiaaDoorGZero
namespace Go.Proofs.YtoblkmbmacimiaaDoor.G
open Go.RowKit Go.Proofs.YtoblkmbmacimiaaDoorW.PrintWords Go.Proofs.YtoblkmbmacimiaaDoorW.PrintLast Go.Proofs.YtoblkmbmacimiaaDoorW.PrintMore
attribute [local go_sem] max2_int min2_int max_two min_two max_three min_three max_four min_four
set_option linter.unusedVariables false
set_option linter.unusedSimpArgs false

/-! ### teamsterref_Faces: function 26 -/
mutual
def teamsterref_Faces.l0 : Nat → List (List Int) → Int → List Int → Int → Int → Option (Int)
  | 0, _, _, _, _, _ => none
  | k + 1, x1, x5, x6, x7, x8 => if x8 < x5 then (if 0 ≤ x8 then (if x8 < (x1.length : Int) then (if ((rd_L4 x1 x8).length : Int) = 0 then (teamsterref_Faces.j1 k x1 x5 x6 (wrap64 (x7 + 1)) x8) else (teamsterref_Faces.j1 k x1 x5 x6 x7 x8)) else (none)) else (none)) else (some x7)
def teamsterref_Faces.j1 : Nat → List (List Int) → Int → List Int → Int → Int → Option (Int)
  | 0, _, _, _, _, _ => none
  | k + 1, x1, x5, x6, x7, x8 => if 0 ≤ x8 then (if x8 < (x1.length : Int) then (teamsterref_Faces.l1 k x1 x5 x6 x7 x8 (rd_L4 x1 x8) ((rd_L4 x1 x8).length : Int) 0) else (none)) else (none)
def teamsterref_Faces.l1 : Nat → List (List Int) → Int → List Int → Int → Int → List Int → Int → Int → Option (Int)
  | 0, _, _, _, _, _, _, _, _ => none
  | k + 1, x1, x5, x6, x7, x8, x36, x37, x38 => if x38 < x37 then (if 0 ≤ x38 then (if x38 < (x36.length : Int) then (if 0 ≤ (wrap64 ((wrap64 (x8 * x5)) + (rd x36 x38))) then (if (wrap64 ((wrap64 (x8 * x5)) + (rd x36 x38))) < (x6.length : Int) then (if (rd x6 (wrap64 ((wrap64 (x8 * x5)) + (rd x36 x38)))) = 0 then (teamsterref_Faces.j3 k x1 x5 x6 (wrap64 (x7 + 1)) x8 x8 (rd x36 x38) x36 x37 x38) else (teamsterref_Faces.j3 k x1 x5 x6 x7 x8 x8 (rd x36 x38) x36 x37 x38)) else (none)) else (none)) else (none)) else (none)) else (teamsterref_Faces.l0 k x1 x5 x6 x7 (wrap64 (x8 + 1)))
def teamsterref_Faces.j3 : Nat → List (List Int) → Int → List Int → Int → Int → Int → Int → List Int → Int → Int → Option (Int)
  | 0, _, _, _, _, _, _, _, _, _, _ => none
  | k + 1, x1, x5, x6, x7, x8, x11, x12, x36, x37, x38 => teamsterref_Faces.l2 k x1 x5 x6 x7 x8 x11 x12 x36 x37 x38
def teamsterref_Faces.l2 : Nat → List (List Int) → Int → List Int → Int → Int → Int → Int → List Int → Int → Int → Option (Int)
  | 0, _, _, _, _, _, _, _, _, _, _ => none
  | k + 1, x1, x5, x6, x7, x8, x11, x12, x36, x37, x38 => if 0 ≤ (wrap64 ((wrap64 (x11 * x5)) + x12)) then (if (wrap64 ((wrap64 (x11 * x5)) + x12)) < (x6.length : Int) then (if (rd x6 (wrap64 ((wrap64 (x11 * x5)) + x12))) = 0 then (teamsterref_Faces.l3 k x1 x5 (x6.set ((wrap64 ((wrap64 (x11 * x5)) + x12)) : Int).toNat x7) x7 x8 x11 x12 0 x36 x37 x38) else (teamsterref_Faces.l1 k x1 x5 x6 x7 x8 x36 x37 (wrap64 (x38 + 1)))) else (none)) else (none)
def teamsterref_Faces.l3 : Nat → List (List Int) → Int → List Int → Int → Int → Int → Int → Int → List Int → Int → Int → Option (Int)
  | 0, _, _, _, _, _, _, _, _, _, _, _ => none
  | k + 1, x1, x5, x6, x7, x8, x11, x12, x13, x36, x37, x38 => if 0 ≤ x12 then (if x12 < (x1.length : Int) then (if 0 ≤ x13 then (if x13 < ((rd_L4 x1 x12).length : Int) then (if (rd (rd_L4 x1 x12) x13) = x11 then (if ((rd_L4 x1 x12).length : Int) = 0 then (none) else (if 0 ≤ (Int.tmod (wrap64 (x13 + 1)) ((rd_L4 x1 x12).length : Int)) then (if (Int.tmod (wrap64 (x13 + 1)) ((rd_L4 x1 x12).length : Int)) < ((rd_L4 x1 x12).length : Int) then (teamsterref_Faces.l2 k x1 x5 x6 x7 x8 x12 (rd (rd_L4 x1 x12) (Int.tmod (wrap64 (x13 + 1)) ((rd_L4 x1 x12).length : Int))) x36 x37 x38) else (none)) else (none))) else (teamsterref_Faces.l3 k x1 x5 x6 x7 x8 x11 x12 (wrap64 (x13 + 1)) x36 x37 x38)) else (none)) else (none)) else (none)) else (none)
end
def teamsterref_Faces.f (k : Nat) (a0_0 : Int) (l0_1 : List (S57)) (l1 : List (List Int)) : Option (Int) := if 0 ≤ (wrap64 (a0_0 * a0_0)) then (if (wrap64 (a0_0 * a0_0) : Int).toNat ≤ 35184372088832 then (teamsterref_Faces.l0 k l1 a0_0 (List.replicate (wrap64 (a0_0 * a0_0) : Int).toNat 0) 0 0) else (none)) else (none)
theorem teamsterref_Faces.mono_l : ∀ k, (∀ y0 y1 y2 y3 y4, LeO (teamsterref_Faces.l0 k y0 y1 y2 y3 y4) (teamsterref_Faces.l0 (k + 1) y0 y1 y2 y3 y4)) ∧ (∀ y0 y1 y2 y3 y4, LeO (teamsterref_Faces.j1 k y0 y1 y2 y3 y4) (teamsterref_Faces.j1 (k + 1) y0 y1 y2 y3 y4)) ∧ (∀ y0 y1 y2 y3 y4 y5 y6 y7, LeO (teamsterref_Faces.l1 k y0 y1 y2 y3 y4 y5 y6 y7) (teamsterref_Faces.l1 (k + 1) y0 y1 y2 y3 y4 y5 y6 y7)) ∧ (∀ y0 y1 y2 y3 y4 y5 y6 y7 y8 y9, LeO (teamsterref_Faces.j3 k y0 y1 y2 y3 y4 y5 y6 y7 y8 y9) (teamsterref_Faces.j3 (k + 1) y0 y1 y2 y3 y4 y5 y6 y7 y8 y9)) ∧ (∀ y0 y1 y2 y3 y4 y5 y6 y7 y8 y9, LeO (teamsterref_Faces.l2 k y0 y1 y2 y3 y4 y5 y6 y7 y8 y9) (teamsterref_Faces.l2 (k + 1) y0 y1 y2 y3 y4 y5 y6 y7 y8 y9)) ∧ (∀ y0 y1 y2 y3 y4 y5 y6 y7 y8 y9 y10, LeO (teamsterref_Faces.l3 k y0 y1 y2 y3 y4 y5 y6 y7 y8 y9 y10) (teamsterref_Faces.l3 (k + 1) y0 y1 y2 y3 y4 y5 y6 y7 y8 y9 y10))
  | 0 => ⟨fun _ _ _ _ _ r h => by simp [teamsterref_Faces.l0] at h, fun _ _ _ _ _ r h => by simp [teamsterref_Faces.j1] at h, fun _ _ _ _ _ _ _ _ r h => by simp [teamsterref_Faces.l1] at h, fun _ _ _ _ _ _ _ _ _ _ r h => by simp [teamsterref_Faces.j3] at h, fun _ _ _ _ _ _ _ _ _ _ r h => by simp [teamsterref_Faces.l2] at h, fun _ _ _ _ _ _ _ _ _ _ _ r h => by simp [teamsterref_Faces.l3] at h⟩
  | k + 1 => by
    obtain ⟨ih0, ih1, ih2, ih3, ih4, ih5⟩ := teamsterref_Faces.mono_l k
    refine ⟨?_, ?_, ?_, ?_, ?_, ?_⟩
    · intro y0 y1 y2 y3 y4
      unfold teamsterref_Faces.l0
      repeat' first
      | (with_reducible exact ih0 _ _ _ _ _)
      | (with_reducible exact ih1 _ _ _ _ _)
      | (with_reducible exact ih2 _ _ _ _ _ _ _ _)
      | (with_reducible exact ih3 _ _ _ _ _ _ _ _ _ _)
      | (with_reducible exact ih4 _ _ _ _ _ _ _ _ _ _)
      | (with_reducible exact ih5 _ _ _ _ _ _ _ _ _ _ _)
      | (with_reducible exact LeO.refl _)
      | (with_reducible exact LeO.none _)
      | (with_reducible refine LeO.ite ?_ ?_)
      | (with_reducible refine LeO.bind ?_ (fun _ => ?_))
      | exact ih0 _ _ _ _ _
      | exact ih1 _ _ _ _ _
      | exact ih2 _ _ _ _ _ _ _ _
      | exact ih3 _ _ _ _ _ _ _ _ _ _
      | exact ih4 _ _ _ _ _ _ _ _ _ _
      | exact ih5 _ _ _ _ _ _ _ _ _ _ _
      | exact LeO.none _
      | refine LeO.ite ?_ ?_
      | refine LeO.bind ?_ (fun _ => ?_)
    · intro y0 y1 y2 y3 y4
      unfold teamsterref_Faces.j1
      repeat' first
      | (with_reducible exact ih0 _ _ _ _ _)
      | (with_reducible exact ih1 _ _ _ _ _)
      | (with_reducible exact ih2 _ _ _ _ _ _ _ _)
      | (with_reducible exact ih3 _ _ _ _ _ _ _ _ _ _)
      | (with_reducible exact ih4 _ _ _ _ _ _ _ _ _ _)
      | (with_reducible exact ih5 _ _ _ _ _ _ _ _ _ _ _)
      | (with_reducible exact LeO.refl _)
      | (with_reducible exact LeO.none _)
      | (with_reducible refine LeO.ite ?_ ?_)
      | (with_reducible refine LeO.bind ?_ (fun _ => ?_))
      | exact ih0 _ _ _ _ _
      | exact ih1 _ _ _ _ _
      | exact ih2 _ _ _ _ _ _ _ _
      | exact ih3 _ _ _ _ _ _ _ _ _ _
      | exact ih4 _ _ _ _ _ _ _ _ _ _
      | exact ih5 _ _ _ _ _ _ _ _ _ _ _
      | exact LeO.none _
      | refine LeO.ite ?_ ?_
      | refine LeO.bind ?_ (fun _ => ?_)
    · intro y0 y1 y2 y3 y4 y5 y6 y7
      unfold teamsterref_Faces.l1
      repeat' first
      | (with_reducible exact ih0 _ _ _ _ _)
      | (with_reducible exact ih1 _ _ _ _ _)
      | (with_reducible exact ih2 _ _ _ _ _ _ _ _)
      | (with_reducible exact ih3 _ _ _ _ _ _ _ _ _ _)
      | (with_reducible exact ih4 _ _ _ _ _ _ _ _ _ _)
      | (with_reducible exact ih5 _ _ _ _ _ _ _ _ _ _ _)
      | (with_reducible exact LeO.refl _)
      | (with_reducible exact LeO.none _)
      | (with_reducible refine LeO.ite ?_ ?_)
      | (with_reducible refine LeO.bind ?_ (fun _ => ?_))
      | exact ih0 _ _ _ _ _
      | exact ih1 _ _ _ _ _
      | exact ih2 _ _ _ _ _ _ _ _
      | exact ih3 _ _ _ _ _ _ _ _ _ _
      | exact ih4 _ _ _ _ _ _ _ _ _ _
      | exact ih5 _ _ _ _ _ _ _ _ _ _ _
      | exact LeO.none _
      | refine LeO.ite ?_ ?_
      | refine LeO.bind ?_ (fun _ => ?_)
    · intro y0 y1 y2 y3 y4 y5 y6 y7 y8 y9
      unfold teamsterref_Faces.j3
      repeat' first
      | (with_reducible exact ih0 _ _ _ _ _)
      | (with_reducible exact ih1 _ _ _ _ _)
      | (with_reducible exact ih2 _ _ _ _ _ _ _ _)
      | (with_reducible exact ih3 _ _ _ _ _ _ _ _ _ _)
      | (with_reducible exact ih4 _ _ _ _ _ _ _ _ _ _)
      | (with_reducible exact ih5 _ _ _ _ _ _ _ _ _ _ _)
      | (with_reducible exact LeO.refl _)
      | (with_reducible exact LeO.none _)
      | (with_reducible refine LeO.ite ?_ ?_)
      | (with_reducible refine LeO.bind ?_ (fun _ => ?_))
      | exact ih0 _ _ _ _ _
      | exact ih1 _ _ _ _ _
      | exact ih2 _ _ _ _ _ _ _ _
      | exact ih3 _ _ _ _ _ _ _ _ _ _
      | exact ih4 _ _ _ _ _ _ _ _ _ _
      | exact ih5 _ _ _ _ _ _ _ _ _ _ _
      | exact LeO.none _
      | refine LeO.ite ?_ ?_
      | refine LeO.bind ?_ (fun _ => ?_)
    · intro y0 y1 y2 y3 y4 y5 y6 y7 y8 y9
      unfold teamsterref_Faces.l2
      repeat' first
      | (with_reducible exact ih0 _ _ _ _ _)
      | (with_reducible exact ih1 _ _ _ _ _)
      | (with_reducible exact ih2 _ _ _ _ _ _ _ _)
      | (with_reducible exact ih3 _ _ _ _ _ _ _ _ _ _)
      | (with_reducible exact ih4 _ _ _ _ _ _ _ _ _ _)
      | (with_reducible exact ih5 _ _ _ _ _ _ _ _ _ _ _)
      | (with_reducible exact LeO.refl _)
      | (with_reducible exact LeO.none _)
      | (with_reducible refine LeO.ite ?_ ?_)
      | (with_reducible refine LeO.bind ?_ (fun _ => ?_))
      | exact ih0 _ _ _ _ _
      | exact ih1 _ _ _ _ _
      | exact ih2 _ _ _ _ _ _ _ _
      | exact ih3 _ _ _ _ _ _ _ _ _ _
      | exact ih4 _ _ _ _ _ _ _ _ _ _
      | exact ih5 _ _ _ _ _ _ _ _ _ _ _
      | exact LeO.none _
      | refine LeO.ite ?_ ?_
      | refine LeO.bind ?_ (fun _ => ?_)
    · intro y0 y1 y2 y3 y4 y5 y6 y7 y8 y9 y10
      unfold teamsterref_Faces.l3
      repeat' first
      | (with_reducible exact ih0 _ _ _ _ _)
      | (with_reducible exact ih1 _ _ _ _ _)
      | (with_reducible exact ih2 _ _ _ _ _ _ _ _)
      | (with_reducible exact ih3 _ _ _ _ _ _ _ _ _ _)
      | (with_reducible exact ih4 _ _ _ _ _ _ _ _ _ _)
      | (with_reducible exact ih5 _ _ _ _ _ _ _ _ _ _ _)
      | (with_reducible exact LeO.refl _)
      | (with_reducible exact LeO.none _)
      | (with_reducible refine LeO.ite ?_ ?_)
      | (with_reducible refine LeO.bind ?_ (fun _ => ?_))
      | exact ih0 _ _ _ _ _
      | exact ih1 _ _ _ _ _
      | exact ih2 _ _ _ _ _ _ _ _
      | exact ih3 _ _ _ _ _ _ _ _ _ _
      | exact ih4 _ _ _ _ _ _ _ _ _ _
      | exact ih5 _ _ _ _ _ _ _ _ _ _ _
      | exact LeO.none _
      | refine LeO.ite ?_ ?_
      | refine LeO.bind ?_ (fun _ => ?_)
theorem teamsterref_Faces.mono : ∀ a0 a1 a2 k, LeO (teamsterref_Faces.f k a0 a1 a2) (teamsterref_Faces.f (k + 1) a0 a1 a2) := by
  intro a0 a1 a2 k
  obtain ⟨ih0, ih1, ih2, ih3, ih4, ih5⟩ := teamsterref_Faces.mono_l k
  unfold teamsterref_Faces.f
  repeat' first
      | (with_reducible exact ih0 _ _ _ _ _)
      | (with_reducible exact ih1 _ _ _ _ _)
      | (with_reducible exact ih2 _ _ _ _ _ _ _ _)
      | (with_reducible exact ih3 _ _ _ _ _ _ _ _ _ _)
      | (with_reducible exact ih4 _ _ _ _ _ _ _ _ _ _)
      | (with_reducible exact ih5 _ _ _ _ _ _ _ _ _ _ _)
      | (with_reducible exact LeO.refl _)
      | (with_reducible exact LeO.none _)
      | (with_reducible refine LeO.ite ?_ ?_)
      | (with_reducible refine LeO.bind ?_ (fun _ => ?_))
      | exact ih0 _ _ _ _ _
      | exact ih1 _ _ _ _ _
      | exact ih2 _ _ _ _ _ _ _ _
      | exact ih3 _ _ _ _ _ _ _ _ _ _
      | exact ih4 _ _ _ _ _ _ _ _ _ _
      | exact ih5 _ _ _ _ _ _ _ _ _ _ _
      | exact LeO.none _
      | refine LeO.ite ?_ ?_
      | refine LeO.bind ?_ (fun _ => ?_)
set_option maxHeartbeats 8000000 in
set_option maxRecDepth 100000 in
theorem teamsterref_Faces.calls (k : Nat) (a0_0 : Int) (A0_1 : Option Addr) (c0_1 : Nat) (l0_1 : List (S57)) (A1 : Option Addr) (c1 : Nat) (l1 : List (List Int)) (r : Int) (w : World) (hr0_1 : Kd.C k57 w A0_1 l0_1.length l0_1) (hc0_1 : l0_1.length ≤ c0_1) (hr1 : Kd.C (Kd.slice 3 (Kd.int .i64)) w A1 l1.length l1) (hc1 : l1.length ≤ c1) (h : teamsterref_Faces.f k a0_0 l0_1 l1 = some r) :
    Calls Tryd.prog 26 #[.agg #[.int .i64 a0_0, .slice A0_1 l0_1.length c0_1], .slice A1 l1.length c1] w fun e w' => e = .returned (.int .i64 r) ∧ Below w.heap.size w w' := by
  have hu24 := Tryd.underlying24
  have HR0_1 := Aside0.mk hr0_1
  have HC0_1 := Aside0.mk hc0_1
  clear hr0_1 hc0_1
  have HR1 := Aside0.mk hr1
  have HC1 := Aside0.mk hc1
  clear hr1 hc1
  have HB := Aside0.mk (Below.refl w.heap.size w)
  have H : (if 0 ≤ (wrap64 (a0_0 * a0_0)) then (if (wrap64 (a0_0 * a0_0) : Int).toNat ≤ 35184372088832 then (teamsterref_Faces.l0 k l1 a0_0 (List.replicate (wrap64 (a0_0 * a0_0) : Int).toNat 0) 0 0) else (none)) else (none)) = some r := h
  clear h
  obtain ⟨ji3, hji3⟩ : ∃ j_ : Int, (wrap64 (a0_0 * a0_0)) = j_ := ⟨_, rfl⟩
  replace H : (if 0 ≤ (ji3) then (if (ji3 : Int).toNat ≤ 35184372088832 then (teamsterref_Faces.l0 k l1 a0_0 (List.replicate (ji3 : Int).toNat 0) 0 0) else (none)) else (none)) = some r := by first | (rw [hji3] at H; exact H) | (simp only [hji3] at H ⊢; exact H)
  have hji3w : (IntKind.i64.wrap (a0_0 * a0_0)) = ji3 := (i64_w _).trans hji3
  by_cases c4 : 0 ≤ (ji3)
  · rw [if_pos c4] at H
    have c4b0 := eq_true c4
    have c4b1 : decide (0 ≤ (ji3)) = true := decide_eq_true c4
    clear c4
    by_cases c5 : (ji3 : Int).toNat ≤ 35184372088832
    · rw [if_pos c5] at H
      have c5b0 := eq_true c5
      have c5b1 : decide ((ji3 : Int).toNat ≤ 35184372088832) = true := decide_eq_true c5
      clear c5
      obtain ⟨y519, hy519⟩ : ∃ y_ : List Int, y_ = (List.replicate (ji3 : Int).toNat 0) := ⟨_, rfl⟩
      replace H : (teamsterref_Faces.l0 k l1 a0_0 y519 0 0) = some r := by first | (rw [hy519]; with_reducible exact H) | (have H2_ := (Option.bind_some _ _).symm.trans H; rw [hy519]; with_reducible exact H2_) | (have H2_ := (Option.bind_some _ _).symm.trans H; with_reducible exact H2_) | with_reducible exact H | (rw [hy519]; exact H) | exact H
      have Ny519 := Aside0.mk hy519
      clear hy519
      have H' := Aside0.mk H
      clear H
      go_enter Tryd.func26, Tryd.ntmps26
      go_wp2_with (first | ((with_reducible refine gate_dst (N := 2) rfl ?_); refine box_event ?hg (N := 2) ?hd (cs := #[.int .i64 a0_0, .slice A0_1 l0_1.length c0_1]) (t := 24) ?hr ?_; (case hd => rfl); (case hg => rfl); (case hr => first | (go_simp; done) | (go_simp; rfl)); intro gb518 hg w6 hbox hb; have n0_ := Aside0.mk (below_step (by repeat (first | (with_reducible first | exact HB.out | apply below_alloc | apply pw_below_drewN | apply below_drew1) | exact HB.out)) hb); have n1_ := Aside0.mk (hbox); have n2_ := Aside0.mk ((by rw [hg]; exact (below_size (by repeat (first | (with_reducible first | exact HB.out | apply below_alloc | apply pw_below_drewN | apply below_drew1) | exact HB.out))) : w.heap.size ≤ gb518)); have n3_ := Aside0.mk ((by rw [hg]; exact (below_size (by repeat (first | (with_reducible first | exact HB.out | apply below_alloc | apply pw_below_drewN | apply below_drew1) | exact HB.out))) : w.heap.size ≤ gb518)); clear HB; have HB := n0_; have BK518 := n1_; have GW518 := n2_; have GE518 := n3_; clear n0_ n1_ n2_ n3_; clear hb hbox hg; have hcz7_0 : w6.cell? ⟨gb518, 0, none⟩ = some (.int .i64 a0_0) := (blk_cell BK518.out 0).trans rfl; have hcz7_1 : w6.cell? ⟨gb518, 1, none⟩ = some (.slice A0_1 l0_1.length c0_1) := (blk_cell BK518.out 1).trans rfl; have hfz7_0 := blk_frozen BK518.out 0; have hfz7_1 := blk_frozen BK518.out 1) | ((with_reducible refine gate_dst (N := 19) rfl ?_); refine Kd.R_make (Kd.int .i64) _ 3 rfl (N := 19) rfl 32 _ _ rfl ji3 rfl rfl Tryd.underlying32 (.int .i64 0) 8 info3 rfl (by decide) (by omega) 0 (ok := fun _ => True) (okp := fun _ => True) rfl (fun _ hk => hk) trivial (of_decide_eq_true (by first | (with_reducible assumption) | assumption)) (Nat.le_trans (Nat.mul_le_mul_right _ (of_decide_eq_true (by first | (with_reducible assumption) | assumption) : ji3.toNat ≤ 35184372088832)) (by omega)) (Below.refl _ _) (Nat.le_refl _) ?_; intro v520 w8 ho9 hb hg_ hnew_; clear hg_ hnew_; (first | rw [← Ny519.out] at ho9 | (simp only [Int.reduceToNat] at ho9; rw [← Ny519.out] at ho9)); have n0_ := Aside0.mk (Kd.R_lower ho9 (below_size (by repeat (first | (with_reducible first | exact HB.out | apply below_alloc | apply pw_below_drewN | apply below_drew1 | refine below_set ?_ GE518.out) | exact HB.out)))); have n1_ := Aside0.mk (blk_below (g := gb518) (o := .cells #[.int .i64 a0_0, .slice A0_1 l0_1.length c0_1] 24 (0, 0)) (by (with_reducible repeat (first | refine blk_drewN ?_ _ | refine blk_drew ?_ | refine blk_alloc ?_ _)); exact BK518.out) hb); have n2_ := Aside0.mk (below_step (by repeat (first | (with_reducible first | exact HB.out | apply below_alloc | apply pw_below_drewN | apply below_drew1 | refine below_set ?_ GE518.out) | exact HB.out)) hb); clear BK518; clear HB; have HO521 := n0_; have BK518 := n1_; have HB := n2_; clear n0_ n1_ n2_; clear hb ho9))
      repeat (go_quiet (first | ((with_reducible refine gate_dst (N := 2) rfl ?_); refine box_event ?hg (N := 2) ?hd (cs := #[.int .i64 a0_0, .slice A0_1 l0_1.length c0_1]) (t := 24) ?hr ?_; (case hd => rfl); (case hg => rfl); (case hr => first | (go_simp; done) | (go_simp; rfl)); intro gb518 hg w6 hbox hb; have n0_ := Aside0.mk (below_step (by repeat (first | (with_reducible first | exact HB.out | apply below_alloc | apply pw_below_drewN | apply below_drew1) | exact HB.out)) hb); have n1_ := Aside0.mk (hbox); have n2_ := Aside0.mk ((by rw [hg]; exact (below_size (by repeat (first | (with_reducible first | exact HB.out | apply below_alloc | apply pw_below_drewN | apply below_drew1) | exact HB.out))) : w.heap.size ≤ gb518)); have n3_ := Aside0.mk ((by rw [hg]; exact (below_size (by repeat (first | (with_reducible first | exact HB.out | apply below_alloc | apply pw_below_drewN | apply below_drew1) | exact HB.out))) : w.heap.size ≤ gb518)); clear HB; have HB := n0_; have BK518 := n1_; have GW518 := n2_; have GE518 := n3_; clear n0_ n1_ n2_ n3_; clear hb hbox hg; have hcz7_0 : w6.cell? ⟨gb518, 0, none⟩ = some (.int .i64 a0_0) := (blk_cell BK518.out 0).trans rfl; have hcz7_1 : w6.cell? ⟨gb518, 1, none⟩ = some (.slice A0_1 l0_1.length c0_1) := (blk_cell BK518.out 1).trans rfl; have hfz7_0 := blk_frozen BK518.out 0; have hfz7_1 := blk_frozen BK518.out 1) | ((with_reducible refine gate_dst (N := 19) rfl ?_); refine Kd.R_make (Kd.int .i64) _ 3 rfl (N := 19) rfl 32 _ _ rfl ji3 rfl rfl Tryd.underlying32 (.int .i64 0) 8 info3 rfl (by decide) (by omega) 0 (ok := fun _ => True) (okp := fun _ => True) rfl (fun _ hk => hk) trivial (of_decide_eq_true (by first | (with_reducible assumption) | assumption)) (Nat.le_trans (Nat.mul_le_mul_right _ (of_decide_eq_true (by first | (with_reducible assumption) | assumption) : ji3.toNat ≤ 35184372088832)) (by omega)) (Below.refl _ _) (Nat.le_refl _) ?_; intro v520 w8 ho9 hb hg_ hnew_; clear hg_ hnew_; (first | rw [← Ny519.out] at ho9 | (simp only [Int.reduceToNat] at ho9; rw [← Ny519.out] at ho9)); have n0_ := Aside0.mk (Kd.R_lower ho9 (below_size (by repeat (first | (with_reducible first | exact HB.out | apply below_alloc | apply pw_below_drewN | apply below_drew1 | refine below_set ?_ GE518.out) | exact HB.out)))); have n1_ := Aside0.mk (blk_below (g := gb518) (o := .cells #[.int .i64 a0_0, .slice A0_1 l0_1.length c0_1] 24 (0, 0)) (by (with_reducible repeat (first | refine blk_drewN ?_ _ | refine blk_drew ?_ | refine blk_alloc ?_ _)); exact BK518.out) hb); have n2_ := Aside0.mk (below_step (by repeat (first | (with_reducible first | exact HB.out | apply below_alloc | apply pw_below_drewN | apply below_drew1 | refine below_set ?_ GE518.out) | exact HB.out)) hb); clear BK518; clear HB; have HO521 := n0_; have BK518 := n1_; have HB := n2_; clear n0_ n1_ n2_; clear hb ho9)); try go_wp2_with (first | ((with_reducible refine gate_dst (N := 2) rfl ?_); refine box_event ?hg (N := 2) ?hd (cs := #[.int .i64 a0_0, .slice A0_1 l0_1.length c0_1]) (t := 24) ?hr ?_; (case hd => rfl); (case hg => rfl); (case hr => first | (go_simp; done) | (go_simp; rfl)); intro gb518 hg w6 hbox hb; have n0_ := Aside0.mk (below_step (by repeat (first | (with_reducible first | exact HB.out | apply below_alloc | apply pw_below_drewN | apply below_drew1) | exact HB.out)) hb); have n1_ := Aside0.mk (hbox); have n2_ := Aside0.mk ((by rw [hg]; exact (below_size (by repeat (first | (with_reducible first | exact HB.out | apply below_alloc | apply pw_below_drewN | apply below_drew1) | exact HB.out))) : w.heap.size ≤ gb518)); have n3_ := Aside0.mk ((by rw [hg]; exact (below_size (by repeat (first | (with_reducible first | exact HB.out | apply below_alloc | apply pw_below_drewN | apply below_drew1) | exact HB.out))) : w.heap.size ≤ gb518)); clear HB; have HB := n0_; have BK518 := n1_; have GW518 := n2_; have GE518 := n3_; clear n0_ n1_ n2_ n3_; clear hb hbox hg; have hcz7_0 : w6.cell? ⟨gb518, 0, none⟩ = some (.int .i64 a0_0) := (blk_cell BK518.out 0).trans rfl; have hcz7_1 : w6.cell? ⟨gb518, 1, none⟩ = some (.slice A0_1 l0_1.length c0_1) := (blk_cell BK518.out 1).trans rfl; have hfz7_0 := blk_frozen BK518.out 0; have hfz7_1 := blk_frozen BK518.out 1) | ((with_reducible refine gate_dst (N := 19) rfl ?_); refine Kd.R_make (Kd.int .i64) _ 3 rfl (N := 19) rfl 32 _ _ rfl ji3 rfl rfl Tryd.underlying32 (.int .i64 0) 8 info3 rfl (by decide) (by omega) 0 (ok := fun _ => True) (okp := fun _ => True) rfl (fun _ hk => hk) trivial (of_decide_eq_true (by first | (with_reducible assumption) | assumption)) (Nat.le_trans (Nat.mul_le_mul_right _ (of_decide_eq_true (by first | (with_reducible assumption) | assumption) : ji3.toNat ≤ 35184372088832)) (by omega)) (Below.refl _ _) (Nat.le_refl _) ?_; intro v520 w8 ho9 hb hg_ hnew_; clear hg_ hnew_; (first | rw [← Ny519.out] at ho9 | (simp only [Int.reduceToNat] at ho9; rw [← Ny519.out] at ho9)); have n0_ := Aside0.mk (Kd.R_lower ho9 (below_size (by repeat (first | (with_reducible first | exact HB.out | apply below_alloc | apply pw_below_drewN | apply below_drew1 | refine below_set ?_ GE518.out) | exact HB.out)))); have n1_ := Aside0.mk (blk_below (g := gb518) (o := .cells #[.int .i64 a0_0, .slice A0_1 l0_1.length c0_1] 24 (0, 0)) (by (with_reducible repeat (first | refine blk_drewN ?_ _ | refine blk_drew ?_ | refine blk_alloc ?_ _)); exact BK518.out) hb); have n2_ := Aside0.mk (below_step (by repeat (first | (with_reducible first | exact HB.out | apply below_alloc | apply pw_below_drewN | apply below_drew1 | refine below_set ?_ GE518.out) | exact HB.out)) hb); clear BK518; clear HB; have HO521 := n0_; have BK518 := n1_; have HB := n2_; clear n0_ n1_ n2_; clear hb ho9)))
      go_loopg [7, 8] k (fun kq v7 v8 w' => ∃ (x6_1 : List Int) (x7_1 : Int) (x8_1 : Int), v7 = .int .i64 x7_1 ∧ v8 = .int .i64 x8_1 ∧ Aside0 (teamsterref_Faces.l0 kq l1 a0_0 x6_1 x7_1 x8_1 = some r) ∧ Aside0 (kq ≤ k) ∧ Aside0 (Kd.R (Kd.int .i64) 3 w' w.heap.size (fun _ => True) v520 x6_1) ∧ Aside0 (w'.heap[gb518]? = some (.cells #[.int .i64 a0_0, (.slice A0_1 l0_1.length c0_1)] 24 (0, 0))) ∧ Aside0 (Below w.heap.size w w'))
      case atStart => exact ⟨(y519), (0), (0), (by first | rfl | (simp; done) | (simp [*]; done)), (by first | rfl | (simp; done) | (simp [*]; done)), H', ⟨Nat.le_refl _⟩, ⟨by (with_reducible repeat (first | apply Kd.R_alloc | apply Kd.R_drewN | apply Kd.R_drew)); exact HO521.out⟩, ⟨by (with_reducible repeat (first | refine blk_drewN ?_ _ | refine blk_drew ?_ | refine blk_alloc ?_ _)); exact BK518.out⟩, ⟨by repeat (first | (with_reducible first | exact HB.out | apply below_alloc | apply pw_below_drewN | apply below_drew1 | refine below_set ?_ GE518.out) | exact HB.out)⟩⟩
      case round =>
        clear H'
        try clear c1
        try clear c2
        try clear p2
        try clear c4
        try clear c4b0
        try clear c4b1
        try clear c5
        try clear c5b0
        try clear c5b1
        try clear p6
        try clear hcz7_0
        try clear hcz7_1
        try clear hfz7_0
        try clear hfz7_1
        try clear hji3
        try clear hji3w
        obtain ⟨x6_1, x7_1, x8_1, rfl, rfl, HA, HK1, HO_6, BK518, HB⟩ := hrel
        cases gk with
        | zero => exact absurd HA.out (by simp [teamsterref_Faces.l0])
        | succ k1 =>
          have H := HA.out
          clear HA
          simp only [teamsterref_Faces.l0] at H
          by_cases c10 : x8_1 < a0_0
          · rw [if_pos c10] at H
            have c10b0 : decide (x8_1 < a0_0) = true := decide_eq_true c10
            clear c10
            by_cases c11 : 0 ≤ x8_1
            · rw [if_pos c11] at H
              have c11b0 : decide (0 ≤ x8_1) = true := decide_eq_true c11
              clear c11
              by_cases c12 : x8_1 < (l1.length : Int)
              · rw [if_pos c12] at H
                have c12b0 : decide (x8_1 < (l1.length : Int)) = true := decide_eq_true c12
                clear c12
                have HC13 := Aside0.mk H
                clear H
                have p522 : 0 ≤ (x8_1 : Int) := of_decide_eq_true (by first | (with_reducible assumption) | assumption)
                have q522 : x8_1 < (l1.length : Int) := of_decide_eq_true (by first | (with_reducible assumption) | assumption)
                obtain ⟨ad522, A522_0, c522_0, e522, hx522_0, hl522_0, hi522_0⟩ := at_L4 HR1.out x8_1 p522 q522
                cases e522
                replace hx522_0 := (HB.out.cell (World.block_lt_of_cell? w _ hx522_0)).trans hx522_0
                have HR522_0 := Aside0.mk hi522_0
                have HC522_0 := Aside0.mk hl522_0
                clear hi522_0 hl522_0
                replace p522 := eq_true p522
                replace q522 := eq_true q522
                go_upto_if 30 with (fail)
                repeat (go_quiet (fail); go_upto_if 30 with (fail))
                go_cut [7] (fun v7 wc => ∃ (kq : Nat) (x7_12 : Int), v7 = .int .i64 x7_12 ∧ Aside0 (teamsterref_Faces.j1 kq l1 a0_0 x6_1 x7_12 x8_1 = some r) ∧ Aside0 (kq ≤ k1) ∧ Aside0 (Kd.R (Kd.int .i64) 3 wc w.heap.size (fun _ => True) v520 x6_1) ∧ Aside0 (wc.heap[gb518]? = some (.cells #[.int .i64 a0_0, (.slice A0_1 l0_1.length c0_1)] 24 (0, 0))) ∧ Aside0 (Below w.heap.size w wc))
                case first =>
                  have H := HC13.out
                  clear HC13
                  by_cases c14 : ((rd_L4 l1 x8_1).length : Int) = 0
                  · rw [if_pos c14] at H
                    have c14b0 : (((rd_L4 l1 x8_1).length : Int) == 0) = true := beq_iff_eq.mpr c14
                    have c14b1 : (((rd_L4 l1 x8_1).length : Int) != 0) = false := bne_eq_false_iff_eq.mpr c14
                    clear c14
                    (first | rw [c14b0] | (simp only [i64_w, i32_w]; rw [c14b0]) | skip)
                    have H' := Aside0.mk H
                    clear H
                    go_wp2
                    repeat (go_quiet (fail); try go_wp2)
                    go_meet
                    case rel => exact ⟨_, (wrap64 (x7_1 + 1)), (by first | rfl | (simp; done) | (simp [*]; done)), H', ⟨by have := HK1.out; first | omega | exact Nat.le_refl _⟩, ⟨by (with_reducible repeat (first | apply Kd.R_alloc | apply Kd.R_drewN | apply Kd.R_drew)); exact HO_6.out⟩, ⟨by (with_reducible repeat (first | refine blk_drewN ?_ _ | refine blk_drew ?_ | refine blk_alloc ?_ _)); exact BK518.out⟩, ⟨by repeat (first | (with_reducible first | exact HB.out | apply below_alloc | apply pw_below_drewN | apply below_drew1 | refine below_set ?_ GE518.out) | exact HB.out)⟩⟩
                  · rw [if_neg c14] at H
                    have c14b0 : (((rd_L4 l1 x8_1).length : Int) == 0) = false := beq_eq_false_iff_ne.mpr c14
                    have c14b1 : (((rd_L4 l1 x8_1).length : Int) != 0) = true := bne_iff_ne.mpr c14
                    have c14b2 : ¬ ((rd_L4 l1 x8_1) = []) := fun h_ => c14 (by rw [h_]; rfl)
                    (first | rw [c14b0] | (simp only [i64_w, i32_w]; rw [c14b0]) | skip)
                    have H' := Aside0.mk H
                    clear H
                    go_wp2
                    repeat (go_quiet (fail); try go_wp2)
                    go_meet
                    case rel => exact ⟨_, (x7_1), (by first | rfl | (simp; done) | (simp [*]; done)), H', ⟨by have := HK1.out; first | omega | exact Nat.le_refl _⟩, ⟨by (with_reducible repeat (first | apply Kd.R_alloc | apply Kd.R_drewN | apply Kd.R_drew)); exact HO_6.out⟩, ⟨by (with_reducible repeat (first | refine blk_drewN ?_ _ | refine blk_drew ?_ | refine blk_alloc ?_ _)); exact BK518.out⟩, ⟨by repeat (first | (with_reducible first | exact HB.out | apply below_alloc | apply pw_below_drewN | apply below_drew1 | refine below_set ?_ GE518.out) | exact HB.out)⟩⟩
                case rest =>
                  clear HC13
                  try clear c1
                  try clear c2
                  try clear p2
                  try clear c4
                  try clear c4b0
                  try clear c4b1
                  try clear c5
                  try clear c5b0
                  try clear c5b1
                  try clear p5
                  try clear q5
                  try clear hx5
                  try clear p6
                  try clear c10
                  try clear c10b0
                  try clear c11
                  try clear c11b0
                  try clear c12
                  try clear c12b0
                  try clear c14
                  try clear c14b0
                  try clear c14b1
                  try clear c14b2
                  try clear hcz7_0
                  try clear hcz7_1
                  try clear hfz7_0
                  try clear hfz7_1
                  try clear hx522_0
                  try clear p2
                  try clear p522
                  try clear p6
                  try clear q522
                  try clear hji3
                  try clear hji3w
                  obtain ⟨kq, x7_12, rfl, HA, HJ12, HO_6, BK518, HB⟩ := hcut
                  cases kq with
                  | zero => exact absurd HA.out (by simp [teamsterref_Faces.j1])
                  | succ kj12 =>
                    have H := HA.out
                    clear HA
                    simp only [teamsterref_Faces.j1] at H
                    by_cases c15 : 0 ≤ x8_1
                    · rw [if_pos c15] at H
                      have c15b0 : decide (0 ≤ x8_1) = true := decide_eq_true c15
                      clear c15
                      by_cases c16 : x8_1 < (l1.length : Int)
                      · rw [if_pos c16] at H
                        have c16b0 : decide (x8_1 < (l1.length : Int)) = true := decide_eq_true c16
                        clear c16
                        have H' := Aside0.mk H
                        clear H
                        have p523 : 0 ≤ (x8_1 : Int) := of_decide_eq_true (by first | (with_reducible assumption) | assumption)
                        have q523 : x8_1 < (l1.length : Int) := of_decide_eq_true (by first | (with_reducible assumption) | assumption)
                        obtain ⟨ad523, A523_0, c523_0, e523, hx523_0, hl523_0, hi523_0⟩ := at_L4 HR1.out x8_1 p523 q523
                        obtain rfl : ad522 = ad523 := (by injection e523)
                        replace hx523_0 := (HB.out.cell (World.block_lt_of_cell? w _ hx523_0)).trans hx523_0
                        have HR523_0 := Aside0.mk hi523_0
                        have HC523_0 := Aside0.mk hl523_0
                        clear hi523_0 hl523_0
                        replace p523 := eq_true p523
                        replace q523 := eq_true q523
                        go_wp2
                        repeat (go_quiet (fail); try go_wp2)
                        go_loopg [7, 38] kj12 (fun kq v7 v38 w' => ∃ (x6_3 : List Int) (x7_3 : Int) (x38_3 : Int), v7 = .int .i64 x7_3 ∧ v38 = .int .i64 x38_3 ∧ Aside0 (teamsterref_Faces.l1 kq l1 a0_0 x6_3 x7_3 x8_1 (rd_L4 l1 x8_1) ((rd_L4 l1 x8_1).length : Int) x38_3 = some r) ∧ Aside0 (kq ≤ kj12) ∧ Aside0 (Kd.R (Kd.int .i64) 3 w' w.heap.size (fun _ => True) v520 x6_3) ∧ Aside0 (w'.heap[gb518]? = some (.cells #[.int .i64 a0_0, (.slice A0_1 l0_1.length c0_1)] 24 (0, 0))) ∧ Aside0 (Below w.heap.size w w'))
                        case atStart => exact ⟨(x6_1), (x7_12), (0), (by first | rfl | (simp; done) | (simp [*]; done)), (by first | rfl | (simp; done) | (simp [*]; done)), H', ⟨Nat.le_refl _⟩, ⟨by (with_reducible repeat (first | apply Kd.R_alloc | apply Kd.R_drewN | apply Kd.R_drew)); exact HO_6.out⟩, ⟨by (with_reducible repeat (first | refine blk_drewN ?_ _ | refine blk_drew ?_ | refine blk_alloc ?_ _)); exact BK518.out⟩, ⟨by repeat (first | (with_reducible first | exact HB.out | apply below_alloc | apply pw_below_drewN | apply below_drew1 | refine below_set ?_ GE518.out) | exact HB.out)⟩⟩
                        case round =>
                          clear H'
                          try clear c1
                          try clear c2
                          try clear p2
                          try clear c4
                          try clear c4b0
                          try clear c4b1
                          try clear c5
                          try clear c5b0
                          try clear c5b1
                          try clear p5
                          try clear q5
                          try clear hx5
                          try clear p6
                          try clear c10
                          try clear c10b0
                          try clear c11
                          try clear c11b0
                          try clear c12
                          try clear c12b0
                          try clear c14
                          try clear c14b0
                          try clear c14b1
                          try clear c14b2
                          try clear c15
                          try clear c15b0
                          try clear c16
                          try clear c16b0
                          try clear hcz7_0
                          try clear hcz7_1
                          try clear hfz7_0
                          try clear hfz7_1
                          try clear hx522_0
                          try clear hx523_0
                          try clear p2
                          try clear p5
                          try clear p522
                          try clear p523
                          try clear p6
                          try clear q5
                          try clear q522
                          try clear q523
                          try clear hji3
                          try clear hji3w
                          obtain ⟨x6_3, x7_3, x38_3, rfl, rfl, HA, HK3, HO_6, BK518, HB⟩ := hrel
                          cases gk with
                          | zero => exact absurd HA.out (by simp [teamsterref_Faces.l1])
                          | succ k3 =>
                            have H := HA.out
                            clear HA
                            simp only [teamsterref_Faces.l1] at H
                            by_cases c17 : x38_3 < ((rd_L4 l1 x8_1).length : Int)
                            · rw [if_pos c17] at H
                              have c17b0 : decide (x38_3 < ((rd_L4 l1 x8_1).length : Int)) = true := decide_eq_true c17
                              clear c17
                              by_cases c18 : 0 ≤ x38_3
                              · rw [if_pos c18] at H
                                have c18b0 : decide (0 ≤ x38_3) = true := decide_eq_true c18
                                clear c18
                                by_cases c19 : x38_3 < ((rd_L4 l1 x8_1).length : Int)
                                · rw [if_pos c19] at H
                                  have c19b0 : decide (x38_3 < ((rd_L4 l1 x8_1).length : Int)) = true := decide_eq_true c19
                                  clear c19
                                  obtain ⟨ji20, hji20⟩ : ∃ j_ : Int, (wrap64 ((wrap64 (x8_1 * a0_0)) + (rd (rd_L4 l1 x8_1) x38_3))) = j_ := ⟨_, rfl⟩
                                  replace H : (if 0 ≤ (ji20) then (if (ji20) < (x6_3.length : Int) then (if (rd x6_3 (ji20)) = 0 then (teamsterref_Faces.j3 k3 l1 a0_0 x6_3 (wrap64 (x7_3 + 1)) x8_1 x8_1 (rd (rd_L4 l1 x8_1) x38_3) (rd_L4 l1 x8_1) ((rd_L4 l1 x8_1).length : Int) x38_3) else (teamsterref_Faces.j3 k3 l1 a0_0 x6_3 x7_3 x8_1 x8_1 (rd (rd_L4 l1 x8_1) x38_3) (rd_L4 l1 x8_1) ((rd_L4 l1 x8_1).length : Int) x38_3)) else (none)) else (none)) = some r := by first | (rw [hji20] at H; exact H) | (simp only [hji20] at H ⊢; exact H)
                                  have hji20w : (IntKind.i64.wrap ((wrap64 (x8_1 * a0_0)) + (rd (rd_L4 l1 x8_1) x38_3))) = ji20 := (i64_w _).trans hji20
                                  by_cases c21 : 0 ≤ (ji20)
                                  · rw [if_pos c21] at H
                                    have c21b0 : decide (0 ≤ (ji20)) = true := decide_eq_true c21
                                    clear c21
                                    by_cases c22 : (ji20) < (x6_3.length : Int)
                                    · rw [if_pos c22] at H
                                      have c22b0 : decide ((ji20) < (x6_3.length : Int)) = true := decide_eq_true c22
                                      clear c22
                                      have HC23 := Aside0.mk H
                                      clear H
                                      have p524 : 0 ≤ (x38_3 : Int) := of_decide_eq_true (by first | (with_reducible assumption) | assumption)
                                      have q524 : x38_3 < ((rd_L4 l1 x8_1).length : Int) := of_decide_eq_true (by first | (with_reducible assumption) | assumption)
                                      obtain ⟨ad524, e524, hx524_0⟩ := Kd.at_int HR523_0.out x38_3 p524 q524
                                      cases e524
                                      replace hx524_0 := (HB.out.cell (World.block_lt_of_cell? w _ hx524_0)).trans hx524_0
                                      replace p524 := eq_true p524
                                      replace q524 := eq_true q524
                                      obtain ⟨Ao24, co24, eo24⟩ := Kd.R_slice HO_6.out
                                      subst eo24
                                      have p525 : 0 ≤ ((ji20) : Int) := of_decide_eq_true (by first | (with_reducible assumption) | assumption)
                                      have q525 : (ji20) < (x6_3.length : Int) := of_decide_eq_true (by first | (with_reducible assumption) | assumption)
                                      obtain ⟨ad525, e525, hx525_0⟩ := Kd.at_int (Kd.R_reads' HO_6.out).2.2 (ji20) p525 q525
                                      cases e525
                                      replace p525 := eq_true p525
                                      replace q525 := eq_true q525
                                      go_upto_if 52 with (fail)
                                      repeat (go_quiet (fail); go_upto_if 52 with (fail))
                                      go_cut [7] (fun v7 wc => ∃ (kq : Nat) (x7_22 : Int), v7 = .int .i64 x7_22 ∧ Aside0 (teamsterref_Faces.j3 kq l1 a0_0 x6_3 x7_22 x8_1 x8_1 (rd (rd_L4 l1 x8_1) x38_3) (rd_L4 l1 x8_1) ((rd_L4 l1 x8_1).length : Int) x38_3 = some r) ∧ Aside0 (kq ≤ k3) ∧ Aside0 (Kd.R (Kd.int .i64) 3 wc w.heap.size (fun _ => True) (.slice (some ad525) x6_3.length co24) x6_3) ∧ Aside0 (wc.heap[gb518]? = some (.cells #[.int .i64 a0_0, (.slice A0_1 l0_1.length c0_1)] 24 (0, 0))) ∧ Aside0 (Below w.heap.size w wc))
                                      case first =>
                                        have H := HC23.out
                                        clear HC23
                                        by_cases c25 : (rd x6_3 (ji20)) = 0
                                        · rw [if_pos c25] at H
                                          have c25b0 : ((rd x6_3 (ji20)) == 0) = true := beq_iff_eq.mpr c25
                                          have c25b1 : ((rd x6_3 (ji20)) != 0) = false := bne_eq_false_iff_eq.mpr c25
                                          clear c25
                                          (first | rw [c25b0] | (simp only [i64_w, i32_w]; rw [c25b0]) | skip)
                                          have H' := Aside0.mk H
                                          clear H
                                          go_wp2
                                          repeat (go_quiet (fail); try go_wp2)
                                          go_meet
                                          case rel => exact ⟨_, (wrap64 (x7_3 + 1)), (by first | rfl | (simp; done) | (simp [*]; done)), H', ⟨by have := HK1.out; have := HJ12.out; have := HK3.out; first | omega | exact Nat.le_refl _⟩, ⟨by (with_reducible repeat (first | apply Kd.R_alloc | apply Kd.R_drewN | apply Kd.R_drew)); exact HO_6.out⟩, ⟨by (with_reducible repeat (first | refine blk_drewN ?_ _ | refine blk_drew ?_ | refine blk_alloc ?_ _)); exact BK518.out⟩, ⟨by repeat (first | (with_reducible first | exact HB.out | apply below_alloc | apply pw_below_drewN | apply below_drew1 | refine below_set ?_ GE518.out) | exact HB.out)⟩⟩
                                        · rw [if_neg c25] at H
                                          have c25b0 : ((rd x6_3 (ji20)) == 0) = false := beq_eq_false_iff_ne.mpr c25
                                          have c25b1 : ((rd x6_3 (ji20)) != 0) = true := bne_iff_ne.mpr c25
                                          (first | rw [c25b0] | (simp only [i64_w, i32_w]; rw [c25b0]) | skip)
                                          have H' := Aside0.mk H
                                          clear H
                                          go_wp2
                                          repeat (go_quiet (fail); try go_wp2)
                                          go_meet
                                          case rel => exact ⟨_, (x7_3), (by first | rfl | (simp; done) | (simp [*]; done)), H', ⟨by have := HK1.out; have := HJ12.out; have := HK3.out; first | omega | exact Nat.le_refl _⟩, ⟨by (with_reducible repeat (first | apply Kd.R_alloc | apply Kd.R_drewN | apply Kd.R_drew)); exact HO_6.out⟩, ⟨by (with_reducible repeat (first | refine blk_drewN ?_ _ | refine blk_drew ?_ | refine blk_alloc ?_ _)); exact BK518.out⟩, ⟨by repeat (first | (with_reducible first | exact HB.out | apply below_alloc | apply pw_below_drewN | apply below_drew1 | refine below_set ?_ GE518.out) | exact HB.out)⟩⟩
                                      case rest =>
                                        clear HC23
                                        try clear c1
                                        try clear c2
                                        try clear p2
                                        try clear c4
                                        try clear c4b0
                                        try clear c4b1
                                        try clear c5
                                        try clear c5b0
                                        try clear c5b1
                                        try clear p5
                                        try clear q5
                                        try clear hx5
                                        try clear p6
                                        try clear c10
                                        try clear c10b0
                                        try clear c11
                                        try clear c11b0
                                        try clear c12
                                        try clear c12b0
                                        try clear c14
                                        try clear c14b0
                                        try clear c14b1
                                        try clear c14b2
                                        try clear c15
                                        try clear c15b0
                                        try clear c16
                                        try clear c16b0
                                        try clear c17
                                        try clear c17b0
                                        try clear c18
                                        try clear c18b0
                                        try clear c19
                                        try clear c19b0
                                        try clear c21
                                        try clear c21b0
                                        try clear c22
                                        try clear c22b0
                                        try clear c25
                                        try clear c25b0
                                        try clear c25b1
                                        try clear hcz7_0
                                        try clear hcz7_1
                                        try clear hfz7_0
                                        try clear hfz7_1
                                        try clear hx522_0
                                        try clear hx523_0
                                        try clear hx524_0
                                        try clear hx525_0
                                        try clear p2
                                        try clear p5
                                        try clear p522
                                        try clear p523
                                        try clear p524
                                        try clear p525
                                        try clear p6
                                        try clear q5
                                        try clear q522
                                        try clear q523
                                        try clear q524
                                        try clear q525
                                        try clear hji20
                                        try clear hji20w
                                        try clear hji3
                                        try clear hji3w
                                        obtain ⟨kq, x7_22, rfl, HA, HJ22, HO_6, BK518, HB⟩ := hcut
                                        cases kq with
                                        | zero => exact absurd HA.out (by simp [teamsterref_Faces.j3])
                                        | succ kj22 =>
                                          have H := HA.out
                                          clear HA
                                          simp only [teamsterref_Faces.j3] at H
                                          have H' := Aside0.mk H
                                          clear H
                                          go_wp2
                                          repeat (go_quiet (fail); try go_wp2)
                                          go_loopg [11, 12] kj22 (fun kq v11 v12 w' => ∃ (x6_5 : List Int) (x11_5 : Int) (x12_5 : Int), v11 = .int .i64 x11_5 ∧ v12 = .int .i64 x12_5 ∧ Aside0 (teamsterref_Faces.l2 kq l1 a0_0 x6_5 x7_22 x8_1 x11_5 x12_5 (rd_L4 l1 x8_1) ((rd_L4 l1 x8_1).length : Int) x38_3 = some r) ∧ Aside0 (kq ≤ kj22) ∧ Aside0 (Kd.R (Kd.int .i64) 3 w' w.heap.size (fun _ => True) (.slice (some ad525) x6_3.length co24) x6_5) ∧ Aside0 (w'.heap[gb518]? = some (.cells #[.int .i64 a0_0, (.slice A0_1 l0_1.length c0_1)] 24 (0, 0))) ∧ Aside0 (Below w.heap.size w w'))
                                          case atStart => exact ⟨(x6_3), (x8_1), ((rd (rd_L4 l1 x8_1) x38_3)), (by first | rfl | (simp; done) | (simp [*]; done)), (by first | rfl | (simp; done) | (simp [*]; done)), H', ⟨Nat.le_refl _⟩, ⟨by (with_reducible repeat (first | apply Kd.R_alloc | apply Kd.R_drewN | apply Kd.R_drew)); exact HO_6.out⟩, ⟨by (with_reducible repeat (first | refine blk_drewN ?_ _ | refine blk_drew ?_ | refine blk_alloc ?_ _)); exact BK518.out⟩, ⟨by repeat (first | (with_reducible first | exact HB.out | apply below_alloc | apply pw_below_drewN | apply below_drew1 | refine below_set ?_ GE518.out) | exact HB.out)⟩⟩
                                          case round =>
                                            clear H'
                                            try clear c1
                                            try clear c2
                                            try clear p2
                                            try clear c4
                                            try clear c4b0
                                            try clear c4b1
                                            try clear c5
                                            try clear c5b0
                                            try clear c5b1
                                            try clear p5
                                            try clear q5
                                            try clear hx5
                                            try clear p6
                                            try clear c10
                                            try clear c10b0
                                            try clear c11
                                            try clear c11b0
                                            try clear c12
                                            try clear c12b0
                                            try clear c14
                                            try clear c14b0
                                            try clear c14b1
                                            try clear c14b2
                                            try clear c15
                                            try clear c15b0
                                            try clear c16
                                            try clear c16b0
                                            try clear c17
                                            try clear c17b0
                                            try clear c18
                                            try clear c18b0
                                            try clear c19
                                            try clear c19b0
                                            try clear c21
                                            try clear c21b0
                                            try clear c22
                                            try clear c22b0
                                            try clear c25
                                            try clear c25b0
                                            try clear c25b1
                                            try clear hcz7_0
                                            try clear hcz7_1
                                            try clear hfz7_0
                                            try clear hfz7_1
                                            try clear hx522_0
                                            try clear hx523_0
                                            try clear hx524_0
                                            try clear hx525_0
                                            try clear p2
                                            try clear p5
                                            try clear p522
                                            try clear p523
                                            try clear p524
                                            try clear p525
                                            try clear p6
                                            try clear q5
                                            try clear q522
                                            try clear q523
                                            try clear q524
                                            try clear q525
                                            try clear hji20
                                            try clear hji20w
                                            try clear hji3
                                            try clear hji3w
                                            obtain ⟨x6_5, x11_5, x12_5, rfl, rfl, HA, HK5, HO_6, BK518, HB⟩ := hrel
                                            have hl6_5 := (Kd.R_reads' HO_6.out).1
                                            rw [hl6_5] at HO_6
                                            (try simp only [hl6_5])
                                            (try simp only [hl6_5] at BK518)
                                            cases gk with
                                            | zero => exact absurd HA.out (by simp [teamsterref_Faces.l2])
                                            | succ k5 =>
                                              have H := HA.out
                                              clear HA
                                              simp only [teamsterref_Faces.l2] at H
                                              obtain ⟨ji26, hji26⟩ : ∃ j_ : Int, (wrap64 ((wrap64 (x11_5 * a0_0)) + x12_5)) = j_ := ⟨_, rfl⟩
                                              replace H : (if 0 ≤ (ji26) then (if (ji26) < (x6_5.length : Int) then (if (rd x6_5 (ji26)) = 0 then (teamsterref_Faces.l3 k5 l1 a0_0 (x6_5.set ((ji26) : Int).toNat x7_22) x7_22 x8_1 x11_5 x12_5 0 (rd_L4 l1 x8_1) ((rd_L4 l1 x8_1).length : Int) x38_3) else (teamsterref_Faces.l1 k5 l1 a0_0 x6_5 x7_22 x8_1 (rd_L4 l1 x8_1) ((rd_L4 l1 x8_1).length : Int) (wrap64 (x38_3 + 1)))) else (none)) else (none)) = some r := by first | (rw [hji26] at H; exact H) | (simp only [hji26] at H ⊢; exact H)
                                              have hji26w : (IntKind.i64.wrap ((wrap64 (x11_5 * a0_0)) + x12_5)) = ji26 := (i64_w _).trans hji26
                                              by_cases c27 : 0 ≤ (ji26)
                                              · rw [if_pos c27] at H
                                                have c27b0 : decide (0 ≤ (ji26)) = true := decide_eq_true c27
                                                clear c27
                                                by_cases c28 : (ji26) < (x6_5.length : Int)
                                                · rw [if_pos c28] at H
                                                  have c28b0 : decide ((ji26) < (x6_5.length : Int)) = true := decide_eq_true c28
                                                  clear c28
                                                  by_cases c29 : (rd x6_5 (ji26)) = 0
                                                  · rw [if_pos c29] at H
                                                    have c29b0 : ((rd x6_5 (ji26)) == 0) = true := beq_iff_eq.mpr c29
                                                    have c29b1 : ((rd x6_5 (ji26)) != 0) = false := bne_eq_false_iff_eq.mpr c29
                                                    clear c29
                                                    obtain ⟨y527, hy527⟩ : ∃ y_ : List Int, y_ = (x6_5.set ((ji26) : Int).toNat x7_22) := ⟨_, rfl⟩
                                                    replace H : (teamsterref_Faces.l3 k5 l1 a0_0 y527 x7_22 x8_1 x11_5 x12_5 0 (rd_L4 l1 x8_1) ((rd_L4 l1 x8_1).length : Int) x38_3) = some r := by first | (rw [hy527]; with_reducible exact H) | (have H2_ := (Option.bind_some _ _).symm.trans H; rw [hy527]; with_reducible exact H2_) | (have H2_ := (Option.bind_some _ _).symm.trans H; with_reducible exact H2_) | with_reducible exact H | (rw [hy527]; exact H) | exact H
                                                    have Ny527 := Aside0.mk hy527
                                                    clear hy527
                                                    have H' := Aside0.mk H
                                                    clear H
                                                    have p526 : 0 ≤ ((ji26) : Int) := of_decide_eq_true (by first | (with_reducible assumption) | assumption)
                                                    have q526 : (ji26) < (x6_5.length : Int) := of_decide_eq_true (by first | (with_reducible assumption) | assumption)
                                                    obtain ⟨ad526, e526, hx526_0⟩ := Kd.at_int (Kd.R_reads' HO_6.out).2.2 (ji26) p526 q526
                                                    obtain rfl : ad525 = ad526 := (by injection e526)
                                                    replace p526 := eq_true p526
                                                    replace q526 := eq_true q526
                                                    have p30 : 0 ≤ ((ji26) : Int) := of_decide_eq_true (by first | (with_reducible assumption) | assumption)
                                                    have q30 : ((ji26) : Int) < ((x6_5.length : Int) : Int) := of_decide_eq_true (by first | (with_reducible assumption) | assumption)
                                                    obtain ⟨go30, co30, eo30, gb30, gl30, cl30, HG30⟩ := Kd.R_form HO_6.out (by omega)
                                                    (first | cases eo30 | (injection eo30 with ea_ en_ ec_; (first | subst ea_ | (injection ea_ with ea_; subst ea_)); subst ec_; clear en_))
                                                    have GB30 := Aside0.mk gb30
                                                    have GG30 := Aside0.mk HG30
                                                    clear gb30 gl30 HG30
                                                    (first | simp only [add_plain] at hx525_0 | skip)
                                                    (first | simp only [add_plain] at hx526_0 | skip)
                                                    obtain ⟨hx30_0, hf30_0⟩ := Kd.R_celln 0 HO_6.out ((ji26) : Int) p30 q30
                                                    replace p30 := eq_true p30
                                                    replace q30 := eq_true q30
                                                    have HP31 := Kd.R_putg HO_6.out ((ji26) : Int) x7_22
                                                    go_wp2_with (first | ((with_reducible refine gate_store (t := 3) (p := 71) rfl ?_); (try (rw [drewN_self wr]; generalize hq_ : World.drewN wr _ = wr; have n0_ := Aside0.mk (Kd.R_at hq_ HO_6.out); have n1_ := Aside0.mk (blk_at hq_ BK518.out); have n2_ := Aside0.mk (below_at hq_ HB.out); clear hq_ HO_6 BK518 HB; have HO_6 := n0_; have BK518 := n1_; have HB := n2_; clear n0_ n1_ n2_; (try (have HP31 := Kd.R_putg HO_6.out ((ji26) : Int) x7_22)))); refine store_event (t := 3) (p := 71) (v := ?vo_w32) (w1 := (wr.setCell ⟨go30, ((ji26) : Int).toNat, none⟩ (.int .i64 x7_22))) ?hg ?ho ?hn ?hr ?_; (case ho => rfl); (case hg => rfl); (case hn => rfl); (case hr => first | (go_simp; done) | (go_simp; rfl)); intro w32 hw; have hg : wr.grownBy w32 (some go30) := (by rw [hw]; exact HP31.2); have hp_ : Kd.R (Kd.int .i64) 3 w32 w.heap.size (fun _ => True) (.slice (some ⟨go30, 0, none⟩) x6_5.length co24) y527 := (by rw [hw, Ny527.out]; exact HP31.1); clear HP31; have n0_ := Aside0.mk (hp_); have n1_ := Aside0.mk (blk_grown (g := gb518) (o := .cells #[.int .i64 a0_0, .slice A0_1 l0_1.length c0_1] 24 (0, 0)) (by (with_reducible repeat (first | refine blk_drewN ?_ _ | refine blk_drew ?_ | refine blk_alloc ?_ _)); exact BK518.out) hg (Kd.R_ne HO_6.out BK518.out (by decide))); have n2_ := Aside0.mk ((by rw [hw]; exact below_set (HB.out) GB30.out : Below w.heap.size w w32)); clear HO_6; clear BK518; clear HB; have HO_6 := n0_; have BK518 := n1_; have HB := n2_; clear n0_ n1_ n2_; clear hg hw hp_))
                                                    repeat (go_quiet (first | ((with_reducible refine gate_store (t := 3) (p := 71) rfl ?_); (try (rw [drewN_self wr]; generalize hq_ : World.drewN wr _ = wr; have n0_ := Aside0.mk (Kd.R_at hq_ HO_6.out); have n1_ := Aside0.mk (blk_at hq_ BK518.out); have n2_ := Aside0.mk (below_at hq_ HB.out); clear hq_ HO_6 BK518 HB; have HO_6 := n0_; have BK518 := n1_; have HB := n2_; clear n0_ n1_ n2_; (try (have HP31 := Kd.R_putg HO_6.out ((ji26) : Int) x7_22)))); refine store_event (t := 3) (p := 71) (v := ?vo_w32) (w1 := (wr.setCell ⟨go30, ((ji26) : Int).toNat, none⟩ (.int .i64 x7_22))) ?hg ?ho ?hn ?hr ?_; (case ho => rfl); (case hg => rfl); (case hn => rfl); (case hr => first | (go_simp; done) | (go_simp; rfl)); intro w32 hw; have hg : wr.grownBy w32 (some go30) := (by rw [hw]; exact HP31.2); have hp_ : Kd.R (Kd.int .i64) 3 w32 w.heap.size (fun _ => True) (.slice (some ⟨go30, 0, none⟩) x6_5.length co24) y527 := (by rw [hw, Ny527.out]; exact HP31.1); clear HP31; have n0_ := Aside0.mk (hp_); have n1_ := Aside0.mk (blk_grown (g := gb518) (o := .cells #[.int .i64 a0_0, .slice A0_1 l0_1.length c0_1] 24 (0, 0)) (by (with_reducible repeat (first | refine blk_drewN ?_ _ | refine blk_drew ?_ | refine blk_alloc ?_ _)); exact BK518.out) hg (Kd.R_ne HO_6.out BK518.out (by decide))); have n2_ := Aside0.mk ((by rw [hw]; exact below_set (HB.out) GB30.out : Below w.heap.size w w32)); clear HO_6; clear BK518; clear HB; have HO_6 := n0_; have BK518 := n1_; have HB := n2_; clear n0_ n1_ n2_; clear hg hw hp_)); try go_wp2_with (first | ((with_reducible refine gate_store (t := 3) (p := 71) rfl ?_); (try (rw [drewN_self wr]; generalize hq_ : World.drewN wr _ = wr; have n0_ := Aside0.mk (Kd.R_at hq_ HO_6.out); have n1_ := Aside0.mk (blk_at hq_ BK518.out); have n2_ := Aside0.mk (below_at hq_ HB.out); clear hq_ HO_6 BK518 HB; have HO_6 := n0_; have BK518 := n1_; have HB := n2_; clear n0_ n1_ n2_; (try (have HP31 := Kd.R_putg HO_6.out ((ji26) : Int) x7_22)))); refine store_event (t := 3) (p := 71) (v := ?vo_w32) (w1 := (wr.setCell ⟨go30, ((ji26) : Int).toNat, none⟩ (.int .i64 x7_22))) ?hg ?ho ?hn ?hr ?_; (case ho => rfl); (case hg => rfl); (case hn => rfl); (case hr => first | (go_simp; done) | (go_simp; rfl)); intro w32 hw; have hg : wr.grownBy w32 (some go30) := (by rw [hw]; exact HP31.2); have hp_ : Kd.R (Kd.int .i64) 3 w32 w.heap.size (fun _ => True) (.slice (some ⟨go30, 0, none⟩) x6_5.length co24) y527 := (by rw [hw, Ny527.out]; exact HP31.1); clear HP31; have n0_ := Aside0.mk (hp_); have n1_ := Aside0.mk (blk_grown (g := gb518) (o := .cells #[.int .i64 a0_0, .slice A0_1 l0_1.length c0_1] 24 (0, 0)) (by (with_reducible repeat (first | refine blk_drewN ?_ _ | refine blk_drew ?_ | refine blk_alloc ?_ _)); exact BK518.out) hg (Kd.R_ne HO_6.out BK518.out (by decide))); have n2_ := Aside0.mk ((by rw [hw]; exact below_set (HB.out) GB30.out : Below w.heap.size w w32)); clear HO_6; clear BK518; clear HB; have HO_6 := n0_; have BK518 := n1_; have HB := n2_; clear n0_ n1_ n2_; clear hg hw hp_)))
                                                    go_loopg [13] k5 (fun kq v13 w' => ∃ (x13_6 : Int), v13 = .int .i64 x13_6 ∧ Aside0 (teamsterref_Faces.l3 kq l1 a0_0 y527 x7_22 x8_1 x11_5 x12_5 x13_6 (rd_L4 l1 x8_1) ((rd_L4 l1 x8_1).length : Int) x38_3 = some r) ∧ Aside0 (kq ≤ k5) ∧ Aside0 (Kd.R (Kd.int .i64) 3 w' w.heap.size (fun _ => True) (.slice (some ⟨go30, 0, none⟩) x6_5.length co24) y527) ∧ Aside0 (w'.heap[gb518]? = some (.cells #[.int .i64 a0_0, (.slice A0_1 l0_1.length c0_1)] 24 (0, 0))) ∧ Aside0 (Below w.heap.size w w'))
                                                    case atStart => exact ⟨(0), (by first | rfl | (simp; done) | (simp [*]; done)), H', ⟨Nat.le_refl _⟩, ⟨by (try simp only [hl6_5]); (with_reducible repeat (first | apply Kd.R_alloc | apply Kd.R_drewN | apply Kd.R_drew)); exact HO_6.out⟩, ⟨by (try simp only [hl6_5]); (with_reducible repeat (first | refine blk_drewN ?_ _ | refine blk_drew ?_ | refine blk_alloc ?_ _)); exact BK518.out⟩, ⟨by repeat (first | (with_reducible first | exact HB.out | apply below_alloc | apply pw_below_drewN | apply below_drew1 | refine below_set ?_ GE518.out) | exact HB.out)⟩⟩
                                                    case round =>
                                                      clear H'
                                                      try clear c1
                                                      try clear c2
                                                      try clear p2
                                                      try clear p3
                                                      try clear q3
                                                      try clear hx3
                                                      try clear hf3
                                                      try clear c4
                                                      try clear c4b0
                                                      try clear c4b1
                                                      try clear c5
                                                      try clear c5b0
                                                      try clear c5b1
                                                      try clear p5
                                                      try clear q5
                                                      try clear hx5
                                                      try clear p6
                                                      try clear c10
                                                      try clear c10b0
                                                      try clear c11
                                                      try clear c11b0
                                                      try clear c12
                                                      try clear c12b0
                                                      try clear c14
                                                      try clear c14b0
                                                      try clear c14b1
                                                      try clear c14b2
                                                      try clear c15
                                                      try clear c15b0
                                                      try clear c16
                                                      try clear c16b0
                                                      try clear c17
                                                      try clear c17b0
                                                      try clear c18
                                                      try clear c18b0
                                                      try clear c19
                                                      try clear c19b0
                                                      try clear c21
                                                      try clear c21b0
                                                      try clear c22
                                                      try clear c22b0
                                                      try clear c25
                                                      try clear c25b0
                                                      try clear c25b1
                                                      try clear c26
                                                      try clear c27
                                                      try clear c27b0
                                                      try clear c28
                                                      try clear c28b0
                                                      try clear c29
                                                      try clear c29b0
                                                      try clear c29b1
                                                      try clear p30
                                                      try clear q30
                                                      try clear hx30
                                                      try clear hf30
                                                      try clear hcz7_0
                                                      try clear hcz7_1
                                                      try clear hfz7_0
                                                      try clear hfz7_1
                                                      try clear hx30_0
                                                      try clear hx522_0
                                                      try clear hx523_0
                                                      try clear hx524_0
                                                      try clear hx525_0
                                                      try clear hx526_0
                                                      try clear p2
                                                      try clear p30
                                                      try clear p5
                                                      try clear p522
                                                      try clear p523
                                                      try clear p524
                                                      try clear p525
                                                      try clear p526
                                                      try clear p6
                                                      try clear q30
                                                      try clear q5
                                                      try clear q522
                                                      try clear q523
                                                      try clear q524
                                                      try clear q525
                                                      try clear q526
                                                      try clear hji20
                                                      try clear hji20w
                                                      try clear hji26
                                                      try clear hji26w
                                                      try clear hji3
                                                      try clear hji3w
                                                      obtain ⟨x13_6, rfl, HA, HK6, HO_6, BK518, HB⟩ := hrel
                                                      have hl6_6 := (Kd.R_reads' HO_6.out).1
                                                      rw [hl6_6] at HO_6
                                                      (try simp only [hl6_6])
                                                      (try simp only [hl6_6] at BK518)
                                                      cases gk with
                                                      | zero => exact absurd HA.out (by simp [teamsterref_Faces.l3])
                                                      | succ k6 =>
                                                        have H := HA.out
                                                        clear HA
                                                        simp only [teamsterref_Faces.l3] at H
                                                        by_cases c33 : 0 ≤ x12_5
                                                        · rw [if_pos c33] at H
                                                          have c33b0 : decide (0 ≤ x12_5) = true := decide_eq_true c33
                                                          clear c33
                                                          by_cases c34 : x12_5 < (l1.length : Int)
                                                          · rw [if_pos c34] at H
                                                            have c34b0 : decide (x12_5 < (l1.length : Int)) = true := decide_eq_true c34
                                                            clear c34
                                                            by_cases c35 : 0 ≤ x13_6
                                                            · rw [if_pos c35] at H
                                                              have c35b0 : decide (0 ≤ x13_6) = true := decide_eq_true c35
                                                              clear c35
                                                              by_cases c36 : x13_6 < ((rd_L4 l1 x12_5).length : Int)
                                                              · rw [if_pos c36] at H
                                                                have c36b0 : decide (x13_6 < ((rd_L4 l1 x12_5).length : Int)) = true := decide_eq_true c36
                                                                clear c36
                                                                by_cases c37 : (rd (rd_L4 l1 x12_5) x13_6) = x11_5
                                                                · rw [if_pos c37] at H
                                                                  have c37b0 : ((rd (rd_L4 l1 x12_5) x13_6) == x11_5) = true := beq_iff_eq.mpr c37
                                                                  have c37b1 : ((rd (rd_L4 l1 x12_5) x13_6) != x11_5) = false := bne_eq_false_iff_eq.mpr c37
                                                                  clear c37
                                                                  by_cases c38 : ((rd_L4 l1 x12_5).length : Int) = 0
                                                                  · rw [if_pos c38] at H
                                                                    exact absurd H (by simp)
                                                                  · rw [if_neg c38] at H
                                                                    have c38b0 : (((rd_L4 l1 x12_5).length : Int) == 0) = false := beq_eq_false_iff_ne.mpr c38
                                                                    have c38b1 : (((rd_L4 l1 x12_5).length : Int) != 0) = true := bne_iff_ne.mpr c38
                                                                    have c38b2 : ¬ ((rd_L4 l1 x12_5) = []) := fun h_ => c38 (by rw [h_]; rfl)
                                                                    obtain ⟨ji39, hji39⟩ : ∃ j_ : Int, (Int.tmod (wrap64 (x13_6 + 1)) ((rd_L4 l1 x12_5).length : Int)) = j_ := ⟨_, rfl⟩
                                                                    replace H : (if 0 ≤ (ji39) then (if (ji39) < ((rd_L4 l1 x12_5).length : Int) then (teamsterref_Faces.l2 k6 l1 a0_0 y527 x7_22 x8_1 x12_5 (rd (rd_L4 l1 x12_5) (ji39)) (rd_L4 l1 x8_1) ((rd_L4 l1 x8_1).length : Int) x38_3) else (none)) else (none)) = some r := by first | (rw [hji39] at H; exact H) | (simp only [hji39] at H ⊢; exact H)
                                                                    by_cases c40 : 0 ≤ (ji39)
                                                                    · rw [if_pos c40] at H
                                                                      have c40b0 : decide (0 ≤ (ji39)) = true := decide_eq_true c40
                                                                      clear c40
                                                                      by_cases c41 : (ji39) < ((rd_L4 l1 x12_5).length : Int)
                                                                      · rw [if_pos c41] at H
                                                                        have c41b0 : decide ((ji39) < ((rd_L4 l1 x12_5).length : Int)) = true := decide_eq_true c41
                                                                        clear c41
                                                                        have H' := Aside0.mk H
                                                                        clear H
                                                                        have p528 : 0 ≤ (x12_5 : Int) := of_decide_eq_true (by first | (with_reducible assumption) | assumption)
                                                                        have q528 : x12_5 < (l1.length : Int) := of_decide_eq_true (by first | (with_reducible assumption) | assumption)
                                                                        obtain ⟨ad528, A528_0, c528_0, e528, hx528_0, hl528_0, hi528_0⟩ := at_L4 HR1.out x12_5 p528 q528
                                                                        obtain rfl : ad522 = ad528 := (by injection e528)
                                                                        replace hx528_0 := (HB.out.cell (World.block_lt_of_cell? w _ hx528_0)).trans hx528_0
                                                                        have HR528_0 := Aside0.mk hi528_0
                                                                        have HC528_0 := Aside0.mk hl528_0
                                                                        clear hi528_0 hl528_0
                                                                        replace p528 := eq_true p528
                                                                        replace q528 := eq_true q528
                                                                        have p529 : 0 ≤ (x13_6 : Int) := of_decide_eq_true (by first | (with_reducible assumption) | assumption)
                                                                        have q529 : x13_6 < ((rd_L4 l1 x12_5).length : Int) := of_decide_eq_true (by first | (with_reducible assumption) | assumption)
                                                                        obtain ⟨ad529, e529, hx529_0⟩ := Kd.at_int HR528_0.out x13_6 p529 q529
                                                                        cases e529
                                                                        replace hx529_0 := (HB.out.cell (World.block_lt_of_cell? w _ hx529_0)).trans hx529_0
                                                                        replace p529 := eq_true p529
                                                                        replace q529 := eq_true q529
                                                                        have p530 : 0 ≤ (x12_5 : Int) := of_decide_eq_true (by first | (with_reducible assumption) | assumption)
                                                                        have q530 : x12_5 < (l1.length : Int) := of_decide_eq_true (by first | (with_reducible assumption) | assumption)
                                                                        obtain ⟨ad530, A530_0, c530_0, e530, hx530_0, hl530_0, hi530_0⟩ := at_L4 HR1.out x12_5 p530 q530
                                                                        obtain rfl : ad522 = ad530 := (by injection e530)
                                                                        replace hx530_0 := (HB.out.cell (World.block_lt_of_cell? w _ hx530_0)).trans hx530_0
                                                                        have HR530_0 := Aside0.mk hi530_0
                                                                        have HC530_0 := Aside0.mk hl530_0
                                                                        clear hi530_0 hl530_0
                                                                        replace p530 := eq_true p530
                                                                        replace q530 := eq_true q530
                                                                        have ea_ := Option.some.inj (hx528_0.symm.trans hx530_0)
                                                                        injection ea_ with ea_ en_ ec_
                                                                        subst ea_
                                                                        subst ec_
                                                                        clear en_
                                                                        have p531 : 0 ≤ (x12_5 : Int) := of_decide_eq_true (by first | (with_reducible assumption) | assumption)
                                                                        have q531 : x12_5 < (l1.length : Int) := of_decide_eq_true (by first | (with_reducible assumption) | assumption)
                                                                        obtain ⟨ad531, A531_0, c531_0, e531, hx531_0, hl531_0, hi531_0⟩ := at_L4 HR1.out x12_5 p531 q531
                                                                        obtain rfl : ad522 = ad531 := (by injection e531)
                                                                        replace hx531_0 := (HB.out.cell (World.block_lt_of_cell? w _ hx531_0)).trans hx531_0
                                                                        have HR531_0 := Aside0.mk hi531_0
                                                                        have HC531_0 := Aside0.mk hl531_0
                                                                        clear hi531_0 hl531_0
                                                                        replace p531 := eq_true p531
                                                                        replace q531 := eq_true q531
                                                                        have ea_ := Option.some.inj (hx528_0.symm.trans hx531_0)
                                                                        injection ea_ with ea_ en_ ec_
                                                                        subst ea_
                                                                        subst ec_
                                                                        clear en_
                                                                        have p532 : 0 ≤ ((ji39) : Int) := of_decide_eq_true (by first | (with_reducible assumption) | assumption)
                                                                        have q532 : (ji39) < ((rd_L4 l1 x12_5).length : Int) := of_decide_eq_true (by first | (with_reducible assumption) | assumption)
                                                                        obtain ⟨ad532, e532, hx532_0⟩ := Kd.at_int HR530_0.out (ji39) p532 q532
                                                                        cases e532
                                                                        replace hx532_0 := (HB.out.cell (World.block_lt_of_cell? w _ hx532_0)).trans hx532_0
                                                                        replace p532 := eq_true p532
                                                                        replace q532 := eq_true q532
                                                                        go_wp2
                                                                        repeat (go_quiet (fail); try go_wp2)
                                                                        (try simp only [← hl6_5, ← hl6_6])
                                                                        go_roundg k6
                                                                        case measure => have := HK1.out; have := HJ12.out; have := HK3.out; have := HJ22.out; have := HK5.out; have := HK6.out; omega
                                                                        case rel => exact ⟨(y527), (x12_5), (rd (rd_L4 l1 x12_5) (ji39)), (by first | rfl | (simp; done) | (simp [*]; done)), (by first | rfl | (simp; done) | (simp only [← hji39] <;> (first | rfl | simp)) | (simp [*]; done)), H', ⟨by have := HK1.out; have := HJ12.out; have := HK3.out; have := HJ22.out; have := HK5.out; have := HK6.out; omega⟩, ⟨by (try simp only [hl6_5]); (try simp only [hl6_6]); (with_reducible repeat (first | apply Kd.R_alloc | apply Kd.R_drewN | apply Kd.R_drew)); exact HO_6.out⟩, ⟨by (try simp only [hl6_5]); (try simp only [hl6_6]); (with_reducible repeat (first | refine blk_drewN ?_ _ | refine blk_drew ?_ | refine blk_alloc ?_ _)); exact BK518.out⟩, ⟨by repeat (first | (with_reducible first | exact HB.out | apply below_alloc | apply pw_below_drewN | apply below_drew1 | refine below_set ?_ GE518.out) | exact HB.out)⟩⟩
                                                                      · rw [if_neg c41] at H
                                                                        exact absurd H (by simp)
                                                                    · rw [if_neg c40] at H
                                                                      exact absurd H (by simp)
                                                                · rw [if_neg c37] at H
                                                                  have c37b0 : ((rd (rd_L4 l1 x12_5) x13_6) == x11_5) = false := beq_eq_false_iff_ne.mpr c37
                                                                  have c37b1 : ((rd (rd_L4 l1 x12_5) x13_6) != x11_5) = true := bne_iff_ne.mpr c37
                                                                  have H' := Aside0.mk H
                                                                  clear H
                                                                  have p528 : 0 ≤ (x12_5 : Int) := of_decide_eq_true (by first | (with_reducible assumption) | assumption)
                                                                  have q528 : x12_5 < (l1.length : Int) := of_decide_eq_true (by first | (with_reducible assumption) | assumption)
                                                                  obtain ⟨ad528, A528_0, c528_0, e528, hx528_0, hl528_0, hi528_0⟩ := at_L4 HR1.out x12_5 p528 q528
                                                                  obtain rfl : ad522 = ad528 := (by injection e528)
                                                                  replace hx528_0 := (HB.out.cell (World.block_lt_of_cell? w _ hx528_0)).trans hx528_0
                                                                  have HR528_0 := Aside0.mk hi528_0
                                                                  have HC528_0 := Aside0.mk hl528_0
                                                                  clear hi528_0 hl528_0
                                                                  replace p528 := eq_true p528
                                                                  replace q528 := eq_true q528
                                                                  have p529 : 0 ≤ (x13_6 : Int) := of_decide_eq_true (by first | (with_reducible assumption) | assumption)
                                                                  have q529 : x13_6 < ((rd_L4 l1 x12_5).length : Int) := of_decide_eq_true (by first | (with_reducible assumption) | assumption)
                                                                  obtain ⟨ad529, e529, hx529_0⟩ := Kd.at_int HR528_0.out x13_6 p529 q529
                                                                  cases e529
                                                                  replace hx529_0 := (HB.out.cell (World.block_lt_of_cell? w _ hx529_0)).trans hx529_0
                                                                  replace p529 := eq_true p529
                                                                  replace q529 := eq_true q529
                                                                  go_wp2
                                                                  repeat (go_quiet (fail); try go_wp2)
                                                                  (try simp only [← hl6_6])
                                                                  go_roundg k6
                                                                  case measure => have := HK1.out; have := HJ12.out; have := HK3.out; have := HJ22.out; have := HK5.out; have := HK6.out; omega
                                                                  case rel => exact ⟨(wrap64 (x13_6 + 1)), (by first | rfl | (simp; done) | (simp [*]; done)), H', ⟨by have := HK1.out; have := HJ12.out; have := HK3.out; have := HJ22.out; have := HK5.out; have := HK6.out; omega⟩, ⟨by (try simp only [hl6_5]); (try simp only [hl6_6]); (with_reducible repeat (first | apply Kd.R_alloc | apply Kd.R_drewN | apply Kd.R_drew)); exact HO_6.out⟩, ⟨by (try simp only [hl6_5]); (try simp only [hl6_6]); (with_reducible repeat (first | refine blk_drewN ?_ _ | refine blk_drew ?_ | refine blk_alloc ?_ _)); exact BK518.out⟩, ⟨by repeat (first | (with_reducible first | exact HB.out | apply below_alloc | apply pw_below_drewN | apply below_drew1 | refine below_set ?_ GE518.out) | exact HB.out)⟩⟩
                                                              · rw [if_neg c36] at H
                                                                exact absurd H (by simp)
                                                            · rw [if_neg c35] at H
                                                              exact absurd H (by simp)
                                                          · rw [if_neg c34] at H
                                                            exact absurd H (by simp)
                                                        · rw [if_neg c33] at H
                                                          exact absurd H (by simp)
                                                  · rw [if_neg c29] at H
                                                    have c29b0 : ((rd x6_5 (ji26)) == 0) = false := beq_eq_false_iff_ne.mpr c29
                                                    have c29b1 : ((rd x6_5 (ji26)) != 0) = true := bne_iff_ne.mpr c29
                                                    have H' := Aside0.mk H
                                                    clear H
                                                    have p526 : 0 ≤ ((ji26) : Int) := of_decide_eq_true (by first | (with_reducible assumption) | assumption)
                                                    have q526 : (ji26) < (x6_5.length : Int) := of_decide_eq_true (by first | (with_reducible assumption) | assumption)
                                                    obtain ⟨ad526, e526, hx526_0⟩ := Kd.at_int (Kd.R_reads' HO_6.out).2.2 (ji26) p526 q526
                                                    obtain rfl : ad525 = ad526 := (by injection e526)
                                                    replace p526 := eq_true p526
                                                    replace q526 := eq_true q526
                                                    go_wp2
                                                    repeat (go_quiet (fail); try go_wp2)
                                                    (try simp only [← hl6_5])
                                                    go_roundg k5
                                                    case measure => have := HK1.out; have := HJ12.out; have := HK3.out; have := HJ22.out; have := HK5.out; omega
                                                    case rel => exact ⟨(x6_5), (x7_22), (wrap64 (x38_3 + 1)), (by first | rfl | (simp; done) | (simp [*]; done)), (by first | rfl | (simp; done) | (simp [*]; done)), H', ⟨by have := HK1.out; have := HJ12.out; have := HK3.out; have := HJ22.out; have := HK5.out; omega⟩, ⟨by (try simp only [hl6_5]); (with_reducible repeat (first | apply Kd.R_alloc | apply Kd.R_drewN | apply Kd.R_drew)); exact HO_6.out⟩, ⟨by (try simp only [hl6_5]); (with_reducible repeat (first | refine blk_drewN ?_ _ | refine blk_drew ?_ | refine blk_alloc ?_ _)); exact BK518.out⟩, ⟨by repeat (first | (with_reducible first | exact HB.out | apply below_alloc | apply pw_below_drewN | apply below_drew1 | refine below_set ?_ GE518.out) | exact HB.out)⟩⟩
                                                · rw [if_neg c28] at H
                                                  exact absurd H (by simp)
                                              · rw [if_neg c27] at H
                                                exact absurd H (by simp)
                                    · rw [if_neg c22] at H
                                      exact absurd H (by simp)
                                  · rw [if_neg c21] at H
                                    exact absurd H (by simp)
                                · rw [if_neg c19] at H
                                  exact absurd H (by simp)
                              · rw [if_neg c18] at H
                                exact absurd H (by simp)
                            · rw [if_neg c17] at H
                              have c17b0 : decide (x38_3 < ((rd_L4 l1 x8_1).length : Int)) = false := decide_eq_false c17
                              clear c17
                              have H' := Aside0.mk H
                              clear H
                              go_wp2
                              repeat (go_quiet (fail); try go_wp2)
                              go_roundg k3
                              case measure => have := HK1.out; have := HJ12.out; have := HK3.out; omega
                              case rel => exact ⟨(x6_3), (x7_3), (wrap64 (x8_1 + 1)), (by first | rfl | (simp; done) | (simp [*]; done)), (by first | rfl | (simp; done) | (simp [*]; done)), H', ⟨by have := HK1.out; have := HJ12.out; have := HK3.out; omega⟩, ⟨by (with_reducible repeat (first | apply Kd.R_alloc | apply Kd.R_drewN | apply Kd.R_drew)); exact HO_6.out⟩, ⟨by (with_reducible repeat (first | refine blk_drewN ?_ _ | refine blk_drew ?_ | refine blk_alloc ?_ _)); exact BK518.out⟩, ⟨by repeat (first | (with_reducible first | exact HB.out | apply below_alloc | apply pw_below_drewN | apply below_drew1 | refine below_set ?_ GE518.out) | exact HB.out)⟩⟩
                      · rw [if_neg c16] at H
                        exact absurd H (by simp)
                    · rw [if_neg c15] at H
                      exact absurd H (by simp)
              · rw [if_neg c12] at H
                exact absurd H (by simp)
            · rw [if_neg c11] at H
              exact absurd H (by simp)
          · rw [if_neg c10] at H
            have c10b0 : decide (x8_1 < a0_0) = false := decide_eq_false c10
            clear c10
            obtain rfl := Option.some.inj H
            go_wp2
            repeat (go_quiet (fail); try go_wp2)
            go_ret
            exact ⟨by first | rfl | (simp [errW_none, errW_some] <;> rfl) | (simp only [← hji3]; first | rfl | (simp [errW_none, errW_some] <;> rfl)) | (simp [*, errW_none, errW_some] <;> rfl), by repeat (first | (with_reducible first | exact HB.out | apply below_alloc | apply pw_below_drewN | apply below_drew1 | refine below_set ?_ GE518.out) | exact HB.out)⟩
    · rw [if_neg c5] at H
      exact absurd H (by simp)
  · rw [if_neg c4] at H
    exact absurd H (by simp)

end Go.Proofs.YtoblkmbmacimiaaDoor.G
