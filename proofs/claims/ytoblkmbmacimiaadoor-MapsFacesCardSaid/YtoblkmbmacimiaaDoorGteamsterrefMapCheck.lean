/- The function teamsterref_MapCheck as a Lean function, and the proof that its call comes to it: written by a program for this claim. -/
import Derived.Test.YtoblkmbmacimiaaDoorGZero
import Derived.Test.YtoblkmbmacimiaaDoorGteamsterrefDegree
import Derived.Test.YtoblkmbmacimiaaDoorGteamsterrefGraphCheck
import Derived.Test.YtoblkmbmacimiaaDoorGteamsterrefHas
import Derived.Test.YtoblkmbmacimiaaDoorGteamsterrefNear
namespace Go.Proofs.YtoblkmbmacimiaaDoor.G
open Go.RowKit Go.Proofs.YtoblkmbmacimiaaDoorW.PrintWords Go.Proofs.YtoblkmbmacimiaaDoorW.PrintLast Go.Proofs.YtoblkmbmacimiaaDoorW.PrintMore
attribute [local go_sem] max2_int min2_int max_two min_two max_three min_three max_four min_four
set_option linter.unusedVariables false
set_option linter.unusedSimpArgs false

/-! ### teamsterref_MapCheck: function 24 -/
mutual
def teamsterref_MapCheck.l0 : Nat → List (List Int) → Int → Int → Int → List (S57) → Option (Int)
  | 0, _, _, _, _, _ => none
  | k + 1, x20, x21, x22, x503000, x503001 => if x22 < x21 then (if 0 ≤ x22 then (if x22 < (x20.length : Int) then ((teamsterref_Degree.f k x503000 x503001 x22).bind fun t505 => (if ((rd_L4 x20 x22).length : Int) = t505 then (teamsterref_MapCheck.l1 k x22 (rd_L4 x20 x22) x20 x21 x22 (rd_L4 x20 x22) ((rd_L4 x20 x22).length : Int) 0 x503000 x503001) else (some 3))) else (none)) else (none)) else (some 0)
def teamsterref_MapCheck.l1 : Nat → Int → List Int → List (List Int) → Int → Int → List Int → Int → Int → Int → List (S57) → Option (Int)
  | 0, _, _, _, _, _, _, _, _, _, _ => none
  | k + 1, x6, x7, x20, x21, x22, x33, x34, x35, x503000, x503001 => if x35 < x34 then (if 0 ≤ x35 then (if x35 < (x33.length : Int) then (if x35 ≤ (x7.length : Int) then ((teamsterref_Has.f k (x7.take (x35 : Int).toNat) (rd x33 x35)).bind fun t508 => (if t508 = true then (some 3) else ((teamsterref_Near.f k x503000 x503001 x6 (rd x33 x35)).bind fun t509 => (if t509 = true then (teamsterref_MapCheck.l1 k x6 x7 x20 x21 x22 x33 x34 (wrap64 (x35 + 1)) x503000 x503001) else (some 3))))) else (none)) else (none)) else (none)) else (teamsterref_MapCheck.l0 k x20 x21 (wrap64 (x22 + 1)) x503000 x503001)
end
def teamsterref_MapCheck.f (k : Nat) (a0_0 : Int) (l0_1 : List (S57)) (l1 : List (List Int)) : Option (Int) := (teamsterref_GraphCheck.f k a0_0 l0_1).bind fun t503 => (if t503 = 0 then (if (l1.length : Int) = a0_0 then (teamsterref_MapCheck.l0 k l1 (l1.length : Int) 0 a0_0 l0_1) else (some 3)) else (some t503))
theorem teamsterref_MapCheck.mono_l : ∀ k, (∀ y0 y1 y2 y3 y4, LeO (teamsterref_MapCheck.l0 k y0 y1 y2 y3 y4) (teamsterref_MapCheck.l0 (k + 1) y0 y1 y2 y3 y4)) ∧ (∀ y0 y1 y2 y3 y4 y5 y6 y7 y8 y9, LeO (teamsterref_MapCheck.l1 k y0 y1 y2 y3 y4 y5 y6 y7 y8 y9) (teamsterref_MapCheck.l1 (k + 1) y0 y1 y2 y3 y4 y5 y6 y7 y8 y9))
  | 0 => ⟨fun _ _ _ _ _ r h => by simp [teamsterref_MapCheck.l0] at h, fun _ _ _ _ _ _ _ _ _ _ r h => by simp [teamsterref_MapCheck.l1] at h⟩
  | k + 1 => by
    obtain ⟨ih0, ih1⟩ := teamsterref_MapCheck.mono_l k
    refine ⟨?_, ?_⟩
    · intro y0 y1 y2 y3 y4
      unfold teamsterref_MapCheck.l0
      repeat' first
      | (with_reducible exact ih0 _ _ _ _ _)
      | (with_reducible exact ih1 _ _ _ _ _ _ _ _ _ _)
      | (with_reducible exact teamsterref_Degree.mono _ _ _ _)
      | (with_reducible exact teamsterref_GraphCheck.mono _ _ _)
      | (with_reducible exact teamsterref_Has.mono _ _ _)
      | (with_reducible exact teamsterref_Near.mono _ _ _ _ _)
      | (with_reducible exact LeO.refl _)
      | (with_reducible exact LeO.none _)
      | (with_reducible refine LeO.ite ?_ ?_)
      | (with_reducible refine LeO.bind ?_ (fun _ => ?_))
      | exact ih0 _ _ _ _ _
      | exact ih1 _ _ _ _ _ _ _ _ _ _
      | exact teamsterref_Degree.mono _ _ _ _
      | exact teamsterref_GraphCheck.mono _ _ _
      | exact teamsterref_Has.mono _ _ _
      | exact teamsterref_Near.mono _ _ _ _ _
      | exact LeO.none _
      | refine LeO.ite ?_ ?_
      | refine LeO.bind ?_ (fun _ => ?_)
    · intro y0 y1 y2 y3 y4 y5 y6 y7 y8 y9
      unfold teamsterref_MapCheck.l1
      repeat' first
      | (with_reducible exact ih0 _ _ _ _ _)
      | (with_reducible exact ih1 _ _ _ _ _ _ _ _ _ _)
      | (with_reducible exact teamsterref_Degree.mono _ _ _ _)
      | (with_reducible exact teamsterref_GraphCheck.mono _ _ _)
      | (with_reducible exact teamsterref_Has.mono _ _ _)
      | (with_reducible exact teamsterref_Near.mono _ _ _ _ _)
      | (with_reducible exact LeO.refl _)
      | (with_reducible exact LeO.none _)
      | (with_reducible refine LeO.ite ?_ ?_)
      | (with_reducible refine LeO.bind ?_ (fun _ => ?_))
      | exact ih0 _ _ _ _ _
      | exact ih1 _ _ _ _ _ _ _ _ _ _
      | exact teamsterref_Degree.mono _ _ _ _
      | exact teamsterref_GraphCheck.mono _ _ _
      | exact teamsterref_Has.mono _ _ _
      | exact teamsterref_Near.mono _ _ _ _ _
      | exact LeO.none _
      | refine LeO.ite ?_ ?_
      | refine LeO.bind ?_ (fun _ => ?_)
theorem teamsterref_MapCheck.mono : ∀ a0 a1 a2 k, LeO (teamsterref_MapCheck.f k a0 a1 a2) (teamsterref_MapCheck.f (k + 1) a0 a1 a2) := by
  intro a0 a1 a2 k
  obtain ⟨ih0, ih1⟩ := teamsterref_MapCheck.mono_l k
  unfold teamsterref_MapCheck.f
  repeat' first
      | (with_reducible exact ih0 _ _ _ _ _)
      | (with_reducible exact ih1 _ _ _ _ _ _ _ _ _ _)
      | (with_reducible exact teamsterref_Degree.mono _ _ _ _)
      | (with_reducible exact teamsterref_GraphCheck.mono _ _ _)
      | (with_reducible exact teamsterref_Has.mono _ _ _)
      | (with_reducible exact teamsterref_Near.mono _ _ _ _ _)
      | (with_reducible exact LeO.refl _)
      | (with_reducible exact LeO.none _)
      | (with_reducible refine LeO.ite ?_ ?_)
      | (with_reducible refine LeO.bind ?_ (fun _ => ?_))
      | exact ih0 _ _ _ _ _
      | exact ih1 _ _ _ _ _ _ _ _ _ _
      | exact teamsterref_Degree.mono _ _ _ _
      | exact teamsterref_GraphCheck.mono _ _ _
      | exact teamsterref_Has.mono _ _ _
      | exact teamsterref_Near.mono _ _ _ _ _
      | exact LeO.none _
      | refine LeO.ite ?_ ?_
      | refine LeO.bind ?_ (fun _ => ?_)
set_option maxHeartbeats 8000000 in
set_option maxRecDepth 100000 in
theorem teamsterref_MapCheck.calls (k : Nat) (a0_0 : Int) (A0_1 : Option Addr) (c0_1 : Nat) (l0_1 : List (S57)) (A1 : Option Addr) (c1 : Nat) (l1 : List (List Int)) (r : Int) (w : World) (hr0_1 : Kd.C k57 w A0_1 l0_1.length l0_1) (hc0_1 : l0_1.length ≤ c0_1) (hr1 : Kd.C (Kd.slice 3 (Kd.int .i64)) w A1 l1.length l1) (hc1 : l1.length ≤ c1) (h : teamsterref_MapCheck.f k a0_0 l0_1 l1 = some r) :
    Calls Tryd.prog 24 #[.agg #[.int .i64 a0_0, .slice A0_1 l0_1.length c0_1], .slice A1 l1.length c1] w fun e w' => e = .returned (.int .i64 r) ∧ Below w.heap.size w w' := by
  have hu24 := Tryd.underlying24
  have HR0_1 := Aside0.mk hr0_1
  have HC0_1 := Aside0.mk hc0_1
  clear hr0_1 hc0_1
  have HR1 := Aside0.mk hr1
  have HC1 := Aside0.mk hc1
  clear hr1 hc1
  have HB := Aside0.mk (Below.refl w.heap.size w)
  have H : ((teamsterref_GraphCheck.f k a0_0 l0_1).bind fun t503 => (if t503 = 0 then (if (l1.length : Int) = a0_0 then (teamsterref_MapCheck.l0 k l1 (l1.length : Int) 0 a0_0 l0_1) else (some 3)) else (some t503))) = some r := h
  clear h
  replace H := Option.bind_eq_some_iff.mp H
  obtain ⟨t503, A30, H⟩ := H
  replace H : (if t503 = 0 then (if (l1.length : Int) = a0_0 then (teamsterref_MapCheck.l0 k l1 (l1.length : Int) 0 a0_0 l0_1) else (some 3)) else (some t503)) = some r := H
  have A3 := Aside0.mk A30
  clear A30
  by_cases c4 : t503 = 0
  · rw [if_pos c4] at H
    have c4b0 : (t503 == 0) = true := beq_iff_eq.mpr c4
    have c4b1 : (t503 != 0) = false := bne_eq_false_iff_eq.mpr c4
    clear c4
    by_cases c5 : (l1.length : Int) = a0_0
    · rw [if_pos c5] at H
      have c5b0 : ((l1.length : Int) == a0_0) = true := beq_iff_eq.mpr c5
      have c5b1 : ((l1.length : Int) != a0_0) = false := bne_eq_false_iff_eq.mpr c5
      clear c5
      have H' := Aside0.mk H
      clear H
      go_enter Tryd.func24, Tryd.ntmps24
      go_wp2_with (first | ((with_reducible refine gate_dst (N := 2) rfl ?_); refine box_event ?hg (N := 2) ?hd (cs := #[.int .i64 a0_0, .slice A0_1 l0_1.length c0_1]) (t := 24) ?hr ?_; (case hd => rfl); (case hg => rfl); (case hr => first | (go_simp; done) | (go_simp; rfl)); intro gb502 hg w6 hbox hb; have n0_ := Aside0.mk (below_step (by repeat (first | (with_reducible first | exact HB.out | apply below_alloc | apply pw_below_drewN | apply below_drew1) | exact HB.out)) hb); have n1_ := Aside0.mk (hbox); have n2_ := Aside0.mk ((by rw [hg]; exact (below_size (by repeat (first | (with_reducible first | exact HB.out | apply below_alloc | apply pw_below_drewN | apply below_drew1) | exact HB.out))) : w.heap.size ≤ gb502)); have n3_ := Aside0.mk ((by rw [hg]; exact (below_size (by repeat (first | (with_reducible first | exact HB.out | apply below_alloc | apply pw_below_drewN | apply below_drew1) | exact HB.out))) : w.heap.size ≤ gb502)); clear HB; have HB := n0_; have BK502 := n1_; have GW502 := n2_; have GE502 := n3_; clear n0_ n1_ n2_ n3_; clear hb hbox hg; have hcz7_0 : w6.cell? ⟨gb502, 0, none⟩ = some (.int .i64 a0_0) := (blk_cell BK502.out 0).trans rfl; have hcz7_1 : w6.cell? ⟨gb502, 1, none⟩ = some (.slice A0_1 l0_1.length c0_1) := (blk_cell BK502.out 1).trans rfl; have hfz7_0 := blk_frozen BK502.out 0; have hfz7_1 := blk_frozen BK502.out 1) | ((with_reducible refine gate_callee (f := 12) rfl ?_); refine goesL_ (some 11) rfl rfl Tryd.func12 (by kernel_rfl) rfl #[.agg #[.int .i64 a0_0, .slice A0_1 l0_1.length c0_1]] rfl (by (try simp only [List.map_toArray, List.map_cons, List.map_nil]); first | done | rfl | (simp only [List.length_drop, List.length_take]; rfl)) ?_; (with_reducible refine (teamsterref_GraphCheck.calls k a0_0 _ _ l0_1 t503 _ ?side1 ?side2 A3.out).mono ?_); (case side1 => repeat (first | exact (Kd.C_below HR0_1.out HB.out) | (with_reducible refine Kd.C_alloc ?_ _) | (with_reducible refine Kd.C_drewN ?_ _) | (with_reducible refine Kd.C_drew ?_))); (case side2 => exact HC0_1.out); rintro e w8 ⟨rfl, hb⟩; refine ⟨_, rfl, ?_⟩; have n0_ := Aside0.mk (blk_below (g := gb502) (o := .cells #[.int .i64 a0_0, .slice A0_1 l0_1.length c0_1] 24 (0, 0)) (by (with_reducible repeat (first | refine blk_drewN ?_ _ | refine blk_drew ?_ | refine blk_alloc ?_ _)); exact BK502.out) hb); have n1_ := Aside0.mk (below_step (by repeat (first | (with_reducible first | exact HB.out | apply below_alloc | apply pw_below_drewN | apply below_drew1 | refine below_set ?_ GE502.out) | exact HB.out)) hb); clear BK502; clear HB; have BK502 := n0_; have HB := n1_; clear n0_ n1_; (try clear hb); (try clear hb2); (try clear hk); (try clear hi); have hcz9_0 : w8.cell? ⟨gb502, 0, none⟩ = some (.int .i64 a0_0) := (blk_cell BK502.out 0).trans rfl; have hcz9_1 : w8.cell? ⟨gb502, 1, none⟩ = some (.slice A0_1 l0_1.length c0_1) := (blk_cell BK502.out 1).trans rfl; have hfz9_0 := blk_frozen BK502.out 0; have hfz9_1 := blk_frozen BK502.out 1))
      go_loopg [22] k (fun kq v22 w' => ∃ (x22_1 : Int), v22 = .int .i64 x22_1 ∧ Aside0 (teamsterref_MapCheck.l0 kq l1 (l1.length : Int) x22_1 a0_0 l0_1 = some r) ∧ Aside0 (kq ≤ k) ∧ Aside0 (w'.heap[gb502]? = some (.cells #[.int .i64 a0_0, (.slice A0_1 l0_1.length c0_1)] 24 (0, 0))) ∧ Aside0 (Below w.heap.size w w'))
      case atStart => exact ⟨(0), (by first | rfl | (simp; done) | (simp [*]; done)), H', ⟨Nat.le_refl _⟩, ⟨by (with_reducible repeat (first | refine blk_drewN ?_ _ | refine blk_drew ?_ | refine blk_alloc ?_ _)); exact BK502.out⟩, ⟨by repeat (first | (with_reducible first | exact HB.out | apply below_alloc | apply pw_below_drewN | apply below_drew1 | refine below_set ?_ GE502.out) | exact HB.out)⟩⟩
      case round =>
        clear H'
        try clear c1
        try clear c2
        try clear p2
        try clear c4
        try clear c4b0
        try clear c4b1
        try clear c5
        try clear c5b0
        try clear c5b1
        try clear hcz7_0
        try clear hcz7_1
        try clear hcz9_0
        try clear hcz9_1
        try clear hfz7_0
        try clear hfz7_1
        try clear hfz9_0
        try clear hfz9_1
        obtain ⟨x22_1, rfl, HA, HK1, BK502, HB⟩ := hrel
        cases gk with
        | zero => exact absurd HA.out (by simp [teamsterref_MapCheck.l0])
        | succ k1 =>
          have H := HA.out
          clear HA
          simp only [teamsterref_MapCheck.l0] at H
          by_cases c10 : x22_1 < (l1.length : Int)
          · rw [if_pos c10] at H
            have c10b0 : decide (x22_1 < (l1.length : Int)) = true := decide_eq_true c10
            clear c10
            by_cases c11 : 0 ≤ x22_1
            · rw [if_pos c11] at H
              have c11b0 : decide (0 ≤ x22_1) = true := decide_eq_true c11
              clear c11
              by_cases c12 : x22_1 < (l1.length : Int)
              · rw [if_pos c12] at H
                have c12b0 : decide (x22_1 < (l1.length : Int)) = true := decide_eq_true c12
                clear c12
                replace H := Option.bind_eq_some_iff.mp H
                obtain ⟨t505, A130, H⟩ := H
                replace H : (if ((rd_L4 l1 x22_1).length : Int) = t505 then (teamsterref_MapCheck.l1 k1 x22_1 (rd_L4 l1 x22_1) l1 (l1.length : Int) x22_1 (rd_L4 l1 x22_1) ((rd_L4 l1 x22_1).length : Int) 0 a0_0 l0_1) else (some 3)) = some r := H
                have A13 := Aside0.mk A130
                clear A130
                by_cases c14 : ((rd_L4 l1 x22_1).length : Int) = t505
                · rw [if_pos c14] at H
                  have c14b0 : (((rd_L4 l1 x22_1).length : Int) == t505) = true := beq_iff_eq.mpr c14
                  have c14b1 : (((rd_L4 l1 x22_1).length : Int) != t505) = false := bne_eq_false_iff_eq.mpr c14
                  clear c14
                  have H' := Aside0.mk H
                  clear H
                  have p504 : 0 ≤ (x22_1 : Int) := of_decide_eq_true (by first | (with_reducible assumption) | assumption)
                  have q504 : x22_1 < (l1.length : Int) := of_decide_eq_true (by first | (with_reducible assumption) | assumption)
                  obtain ⟨ad504, A504_0, c504_0, e504, hx504_0, hl504_0, hi504_0⟩ := at_L4 HR1.out x22_1 p504 q504
                  cases e504
                  replace hx504_0 := (HB.out.cell (World.block_lt_of_cell? w _ hx504_0)).trans hx504_0
                  have HR504_0 := Aside0.mk hi504_0
                  have HC504_0 := Aside0.mk hl504_0
                  clear hi504_0 hl504_0
                  replace p504 := eq_true p504
                  replace q504 := eq_true q504
                  have hcz15_0 : wr.cell? ⟨gb502, 0, none⟩ = some (.int .i64 a0_0) := (blk_cell BK502.out 0).trans rfl
                  have hcz15_1 : wr.cell? ⟨gb502, 1, none⟩ = some (.slice A0_1 l0_1.length c0_1) := (blk_cell BK502.out 1).trans rfl
                  have hfz15_0 := blk_frozen BK502.out 0
                  have hfz15_1 := blk_frozen BK502.out 1
                  go_wp2_with (first | ((with_reducible refine gate_callee (f := 49) rfl ?_); refine goesL_ (some 31) rfl rfl Tryd.func49 (by kernel_rfl) rfl #[.agg #[.int .i64 a0_0, .slice A0_1 l0_1.length c0_1], .int .i64 x22_1] rfl (by (try simp only [List.map_toArray, List.map_cons, List.map_nil]); first | done | rfl | (simp only [List.length_drop, List.length_take]; rfl)) ?_; (with_reducible refine (teamsterref_Degree.calls k1 a0_0 _ _ l0_1 x22_1 t505 _ ?side1 ?side2 A13.out).mono ?_); (case side1 => repeat (first | exact (Kd.C_below HR0_1.out HB.out) | (with_reducible refine Kd.C_alloc ?_ _) | (with_reducible refine Kd.C_drewN ?_ _) | (with_reducible refine Kd.C_drew ?_))); (case side2 => exact HC0_1.out); rintro e w16 ⟨rfl, hb⟩; refine ⟨_, rfl, ?_⟩; have n0_ := Aside0.mk (blk_below (g := gb502) (o := .cells #[.int .i64 a0_0, .slice A0_1 l0_1.length c0_1] 24 (0, 0)) (by (with_reducible repeat (first | refine blk_drewN ?_ _ | refine blk_drew ?_ | refine blk_alloc ?_ _)); exact BK502.out) hb); have n1_ := Aside0.mk (below_step (by repeat (first | (with_reducible first | exact HB.out | apply below_alloc | apply pw_below_drewN | apply below_drew1 | refine below_set ?_ GE502.out) | exact HB.out)) hb); clear BK502; clear HB; have BK502 := n0_; have HB := n1_; clear n0_ n1_; (try clear hb); (try clear hb2); (try clear hk); (try clear hi)))
                  go_loopg [35] k1 (fun kq v35 w' => ∃ (x35_2 : Int), v35 = .int .i64 x35_2 ∧ Aside0 (teamsterref_MapCheck.l1 kq x22_1 (rd_L4 l1 x22_1) l1 (l1.length : Int) x22_1 (rd_L4 l1 x22_1) ((rd_L4 l1 x22_1).length : Int) x35_2 a0_0 l0_1 = some r) ∧ Aside0 (kq ≤ k1) ∧ Aside0 (w'.heap[gb502]? = some (.cells #[.int .i64 a0_0, (.slice A0_1 l0_1.length c0_1)] 24 (0, 0))) ∧ Aside0 (Below w.heap.size w w'))
                  case atStart => exact ⟨(0), (by first | rfl | (simp; done) | (simp [*]; done)), H', ⟨Nat.le_refl _⟩, ⟨by (with_reducible repeat (first | refine blk_drewN ?_ _ | refine blk_drew ?_ | refine blk_alloc ?_ _)); exact BK502.out⟩, ⟨by repeat (first | (with_reducible first | exact HB.out | apply below_alloc | apply pw_below_drewN | apply below_drew1 | refine below_set ?_ GE502.out) | exact HB.out)⟩⟩
                  case round =>
                    clear H'
                    try clear c1
                    try clear c2
                    try clear p2
                    try clear c4
                    try clear c4b0
                    try clear c4b1
                    try clear c5
                    try clear c5b0
                    try clear c5b1
                    try clear p5
                    try clear q5
                    try clear hx5
                    try clear c10
                    try clear c10b0
                    try clear c11
                    try clear c11b0
                    try clear c12
                    try clear c12b0
                    try clear c14
                    try clear c14b0
                    try clear c14b1
                    try clear hcz15_0
                    try clear hcz15_1
                    try clear hcz7_0
                    try clear hcz7_1
                    try clear hcz9_0
                    try clear hcz9_1
                    try clear hfz15_0
                    try clear hfz15_1
                    try clear hfz7_0
                    try clear hfz7_1
                    try clear hfz9_0
                    try clear hfz9_1
                    try clear hx504_0
                    try clear p2
                    try clear p504
                    try clear q504
                    obtain ⟨x35_2, rfl, HA, HK2, BK502, HB⟩ := hrel
                    cases gk with
                    | zero => exact absurd HA.out (by simp [teamsterref_MapCheck.l1])
                    | succ k2 =>
                      have H := HA.out
                      clear HA
                      simp only [teamsterref_MapCheck.l1] at H
                      by_cases c17 : x35_2 < ((rd_L4 l1 x22_1).length : Int)
                      · rw [if_pos c17] at H
                        have c17b0 : decide (x35_2 < ((rd_L4 l1 x22_1).length : Int)) = true := decide_eq_true c17
                        clear c17
                        by_cases c18 : 0 ≤ x35_2
                        · rw [if_pos c18] at H
                          have c18b0 : decide (0 ≤ x35_2) = true := decide_eq_true c18
                          clear c18
                          by_cases c19 : x35_2 < ((rd_L4 l1 x22_1).length : Int)
                          · rw [if_pos c19] at H
                            have c19b0 : decide (x35_2 < ((rd_L4 l1 x22_1).length : Int)) = true := decide_eq_true c19
                            clear c19
                            have c20b0 := eq_true (of_decide_eq_true (by first | (with_reducible assumption) | assumption) : 0 ≤ x35_2)
                            by_cases c21 : x35_2 ≤ ((rd_L4 l1 x22_1).length : Int)
                            · rw [if_pos c21] at H
                              have c21b0 := eq_true c21
                              have c21b1 : decide (x35_2 ≤ ((rd_L4 l1 x22_1).length : Int)) = true := decide_eq_true c21
                              clear c21
                              replace H := Option.bind_eq_some_iff.mp H
                              obtain ⟨t508, A220, H⟩ := H
                              replace H : (if t508 = true then (some 3) else ((teamsterref_Near.f k2 a0_0 l0_1 x22_1 (rd (rd_L4 l1 x22_1) x35_2)).bind fun t509 => (if t509 = true then (teamsterref_MapCheck.l1 k2 x22_1 (rd_L4 l1 x22_1) l1 (l1.length : Int) x22_1 (rd_L4 l1 x22_1) ((rd_L4 l1 x22_1).length : Int) (wrap64 (x35_2 + 1)) a0_0 l0_1) else (some 3)))) = some r := H
                              have A22 := Aside0.mk A220
                              clear A220
                              by_cases c23 : t508 = true
                              · subst c23
                                have H1 : (some 3) = some r := by rw [if_pos rfl] at H; exact H
                                clear H
                                have H := H1
                                clear H1
                                obtain rfl := Option.some.inj H
                                have p506 : 0 ≤ (x35_2 : Int) := of_decide_eq_true (by first | (with_reducible assumption) | assumption)
                                have q506 : x35_2 < ((rd_L4 l1 x22_1).length : Int) := of_decide_eq_true (by first | (with_reducible assumption) | assumption)
                                obtain ⟨ad506, e506, hx506_0⟩ := Kd.at_int HR504_0.out x35_2 p506 q506
                                cases e506
                                replace hx506_0 := (HB.out.cell (World.block_lt_of_cell? w _ hx506_0)).trans hx506_0
                                replace p506 := eq_true p506
                                replace q506 := eq_true q506
                                obtain ⟨i024, hi024, _, hsz24, _⟩ := info_parts info3
                                obtain ⟨hcut24, hA24, hC24⟩ := print_take_of (P := Tryd.prog) (Value.int .i64) 0 32 3 .i64 Tryd.underlying32 hi024 hsz24 (some ad506) c504_0 (rd_L4 l1 x22_1) x35_2 (of_decide_eq_true (by first | (with_reducible assumption) | assumption)) (of_decide_eq_true (by first | (with_reducible assumption) | assumption)) HC504_0.out
                                have HR507 := Aside0.mk (Kd.C_of_reads (h1 := fun _ => rfl) (hA24 _ (Kd.reads_of_C HR504_0.out)))
                                have HC507 := Aside0.mk hC24
                                clear hA24 hC24 hi024 hsz24
                                go_wp2_with (first | ((with_reducible refine gate_callee (f := 58) rfl ?_); refine goesL_ (some 44) rfl rfl Tryd.func58 (by kernel_rfl) rfl #[.slice (some ad506) ((rd_L4 l1 x22_1).take (x35_2 : Int).toNat).length c504_0, .int .i64 (rd (rd_L4 l1 x22_1) x35_2)] rfl (by (try simp only [List.map_toArray, List.map_cons, List.map_nil]); first | done | (rw [show ((rd_L4 l1 x22_1).take (x35_2 : Int).toNat).length = x35_2.toNat from (by rw [List.length_take]; have h_ : (x35_2 : Int) ≤ ((rd_L4 l1 x22_1).length : Int) := of_decide_eq_true (by first | (with_reducible assumption) | assumption); omega)] <;> rfl) | rfl | (simp only [List.length_drop, List.length_take]; rfl)) ?_; (with_reducible refine (teamsterref_Has.calls k2 _ _ ((rd_L4 l1 x22_1).take (x35_2 : Int).toNat) (rd (rd_L4 l1 x22_1) x35_2) true _ ?side1 ?side2 A22.out).mono ?_); (case side1 => repeat (first | exact (Kd.C_below HR507.out HB.out) | (with_reducible refine Kd.C_alloc ?_ _) | (with_reducible refine Kd.C_drewN ?_ _) | (with_reducible refine Kd.C_drew ?_))); (case side2 => exact HC507.out); rintro e w' ⟨rfl, ⟨nd, rfl⟩⟩; refine ⟨_, rfl, ?_⟩))
                                go_ret
                                exact ⟨by first | rfl | (simp [errW_none, errW_some] <;> rfl) | (simp [*, errW_none, errW_some] <;> rfl), by repeat (first | (with_reducible first | exact HB.out | apply below_alloc | apply pw_below_drewN | apply below_drew1 | refine below_set ?_ GE502.out) | exact HB.out)⟩
                              · replace c23 := Bool.eq_false_iff.mpr c23
                                subst c23
                                have H1 : ((teamsterref_Near.f k2 a0_0 l0_1 x22_1 (rd (rd_L4 l1 x22_1) x35_2)).bind fun t509 => (if t509 = true then (teamsterref_MapCheck.l1 k2 x22_1 (rd_L4 l1 x22_1) l1 (l1.length : Int) x22_1 (rd_L4 l1 x22_1) ((rd_L4 l1 x22_1).length : Int) (wrap64 (x35_2 + 1)) a0_0 l0_1) else (some 3))) = some r := by rw [if_neg (show ¬ (false = true) by decide)] at H; exact H
                                clear H
                                have H := H1
                                clear H1
                                replace H := Option.bind_eq_some_iff.mp H
                                obtain ⟨t509, A250, H⟩ := H
                                replace H : (if t509 = true then (teamsterref_MapCheck.l1 k2 x22_1 (rd_L4 l1 x22_1) l1 (l1.length : Int) x22_1 (rd_L4 l1 x22_1) ((rd_L4 l1 x22_1).length : Int) (wrap64 (x35_2 + 1)) a0_0 l0_1) else (some 3)) = some r := H
                                have A25 := Aside0.mk A250
                                clear A250
                                by_cases c26 : t509 = true
                                · subst c26
                                  have H1 : (teamsterref_MapCheck.l1 k2 x22_1 (rd_L4 l1 x22_1) l1 (l1.length : Int) x22_1 (rd_L4 l1 x22_1) ((rd_L4 l1 x22_1).length : Int) (wrap64 (x35_2 + 1)) a0_0 l0_1) = some r := by rw [if_pos rfl] at H; exact H
                                  clear H
                                  have H := H1
                                  clear H1
                                  have H' := Aside0.mk H
                                  clear H
                                  have p506 : 0 ≤ (x35_2 : Int) := of_decide_eq_true (by first | (with_reducible assumption) | assumption)
                                  have q506 : x35_2 < ((rd_L4 l1 x22_1).length : Int) := of_decide_eq_true (by first | (with_reducible assumption) | assumption)
                                  obtain ⟨ad506, e506, hx506_0⟩ := Kd.at_int HR504_0.out x35_2 p506 q506
                                  cases e506
                                  replace hx506_0 := (HB.out.cell (World.block_lt_of_cell? w _ hx506_0)).trans hx506_0
                                  replace p506 := eq_true p506
                                  replace q506 := eq_true q506
                                  obtain ⟨i027, hi027, _, hsz27, _⟩ := info_parts info3
                                  obtain ⟨hcut27, hA27, hC27⟩ := print_take_of (P := Tryd.prog) (Value.int .i64) 0 32 3 .i64 Tryd.underlying32 hi027 hsz27 (some ad506) c504_0 (rd_L4 l1 x22_1) x35_2 (of_decide_eq_true (by first | (with_reducible assumption) | assumption)) (of_decide_eq_true (by first | (with_reducible assumption) | assumption)) HC504_0.out
                                  have HR507 := Aside0.mk (Kd.C_of_reads (h1 := fun _ => rfl) (hA27 _ (Kd.reads_of_C HR504_0.out)))
                                  have HC507 := Aside0.mk hC27
                                  clear hA27 hC27 hi027 hsz27
                                  go_wp2_with (first | ((with_reducible refine gate_callee (f := 58) rfl ?_); refine goesL_ (some 44) rfl rfl Tryd.func58 (by kernel_rfl) rfl #[.slice (some ad506) ((rd_L4 l1 x22_1).take (x35_2 : Int).toNat).length c504_0, .int .i64 (rd (rd_L4 l1 x22_1) x35_2)] rfl (by (try simp only [List.map_toArray, List.map_cons, List.map_nil]); first | done | (rw [show ((rd_L4 l1 x22_1).take (x35_2 : Int).toNat).length = x35_2.toNat from (by rw [List.length_take]; have h_ : (x35_2 : Int) ≤ ((rd_L4 l1 x22_1).length : Int) := of_decide_eq_true (by first | (with_reducible assumption) | assumption); omega)] <;> rfl) | rfl | (simp only [List.length_drop, List.length_take]; rfl)) ?_; (with_reducible refine (teamsterref_Has.calls k2 _ _ ((rd_L4 l1 x22_1).take (x35_2 : Int).toNat) (rd (rd_L4 l1 x22_1) x35_2) false _ ?side1 ?side2 A22.out).mono ?_); (case side1 => repeat (first | exact (Kd.C_below HR507.out HB.out) | (with_reducible refine Kd.C_alloc ?_ _) | (with_reducible refine Kd.C_drewN ?_ _) | (with_reducible refine Kd.C_drew ?_))); (case side2 => exact HC507.out); rintro e w' ⟨rfl, ⟨nd, rfl⟩⟩; refine ⟨_, rfl, ?_⟩; have hcz28_0 : wr.cell? ⟨gb502, 0, none⟩ = some (.int .i64 a0_0) := (blk_cell BK502.out 0).trans rfl; have hcz28_1 : wr.cell? ⟨gb502, 1, none⟩ = some (.slice A0_1 l0_1.length c0_1) := (blk_cell BK502.out 1).trans rfl; have hfz28_0 := blk_frozen BK502.out 0; have hfz28_1 := blk_frozen BK502.out 1) | (go_at_call 59; (with_reducible refine (teamsterref_Near.calls k2 a0_0 _ _ l0_1 x22_1 (rd (rd_L4 l1 x22_1) x35_2) true _ ?side1 ?side2 A25.out).mono ?_); (case side1 => repeat (first | exact (Kd.C_below HR0_1.out (by repeat (first | (with_reducible first | exact HB.out | apply below_alloc | apply pw_below_drewN | apply below_drew1 | refine below_set ?_ GE502.out) | exact HB.out))) | (with_reducible refine Kd.C_alloc ?_ _) | (with_reducible refine Kd.C_drewN ?_ _) | (with_reducible refine Kd.C_drew ?_))); (case side2 => exact HC0_1.out); rintro e w29 ⟨rfl, hb⟩; have n0_ := Aside0.mk (blk_below (g := gb502) (o := .cells #[.int .i64 a0_0, .slice A0_1 l0_1.length c0_1] 24 (0, 0)) (by (with_reducible repeat (first | refine blk_drewN ?_ _ | refine blk_drew ?_ | refine blk_alloc ?_ _)); exact BK502.out) hb); have n1_ := Aside0.mk (below_step (by repeat (first | (with_reducible first | exact HB.out | apply below_alloc | apply pw_below_drewN | apply below_drew1 | refine below_set ?_ GE502.out) | exact HB.out)) hb); clear BK502; clear HB; have BK502 := n0_; have HB := n1_; clear n0_ n1_; (try clear hb); (try clear hb2); (try clear hk); (try clear hi)))
                                  go_roundg k2
                                  case measure => have := HK1.out; have := HK2.out; omega
                                  case rel => exact ⟨(wrap64 (x35_2 + 1)), (by first | rfl | (simp; done) | (simp [*]; done)), H', ⟨by have := HK1.out; have := HK2.out; omega⟩, ⟨by (with_reducible repeat (first | refine blk_drewN ?_ _ | refine blk_drew ?_ | refine blk_alloc ?_ _)); exact BK502.out⟩, ⟨by repeat (first | (with_reducible first | exact HB.out | apply below_alloc | apply pw_below_drewN | apply below_drew1 | refine below_set ?_ GE502.out) | exact HB.out)⟩⟩
                                · replace c26 := Bool.eq_false_iff.mpr c26
                                  subst c26
                                  have H1 : (some 3) = some r := by rw [if_neg (show ¬ (false = true) by decide)] at H; exact H
                                  clear H
                                  have H := H1
                                  clear H1
                                  obtain rfl := Option.some.inj H
                                  have p506 : 0 ≤ (x35_2 : Int) := of_decide_eq_true (by first | (with_reducible assumption) | assumption)
                                  have q506 : x35_2 < ((rd_L4 l1 x22_1).length : Int) := of_decide_eq_true (by first | (with_reducible assumption) | assumption)
                                  obtain ⟨ad506, e506, hx506_0⟩ := Kd.at_int HR504_0.out x35_2 p506 q506
                                  cases e506
                                  replace hx506_0 := (HB.out.cell (World.block_lt_of_cell? w _ hx506_0)).trans hx506_0
                                  replace p506 := eq_true p506
                                  replace q506 := eq_true q506
                                  obtain ⟨i030, hi030, _, hsz30, _⟩ := info_parts info3
                                  obtain ⟨hcut30, hA30, hC30⟩ := print_take_of (P := Tryd.prog) (Value.int .i64) 0 32 3 .i64 Tryd.underlying32 hi030 hsz30 (some ad506) c504_0 (rd_L4 l1 x22_1) x35_2 (of_decide_eq_true (by first | (with_reducible assumption) | assumption)) (of_decide_eq_true (by first | (with_reducible assumption) | assumption)) HC504_0.out
                                  have HR507 := Aside0.mk (Kd.C_of_reads (h1 := fun _ => rfl) (hA30 _ (Kd.reads_of_C HR504_0.out)))
                                  have HC507 := Aside0.mk hC30
                                  clear hA30 hC30 hi030 hsz30
                                  go_wp2_with (first | ((with_reducible refine gate_callee (f := 58) rfl ?_); refine goesL_ (some 44) rfl rfl Tryd.func58 (by kernel_rfl) rfl #[.slice (some ad506) ((rd_L4 l1 x22_1).take (x35_2 : Int).toNat).length c504_0, .int .i64 (rd (rd_L4 l1 x22_1) x35_2)] rfl (by (try simp only [List.map_toArray, List.map_cons, List.map_nil]); first | done | (rw [show ((rd_L4 l1 x22_1).take (x35_2 : Int).toNat).length = x35_2.toNat from (by rw [List.length_take]; have h_ : (x35_2 : Int) ≤ ((rd_L4 l1 x22_1).length : Int) := of_decide_eq_true (by first | (with_reducible assumption) | assumption); omega)] <;> rfl) | rfl | (simp only [List.length_drop, List.length_take]; rfl)) ?_; (with_reducible refine (teamsterref_Has.calls k2 _ _ ((rd_L4 l1 x22_1).take (x35_2 : Int).toNat) (rd (rd_L4 l1 x22_1) x35_2) false _ ?side1 ?side2 A22.out).mono ?_); (case side1 => repeat (first | exact (Kd.C_below HR507.out HB.out) | (with_reducible refine Kd.C_alloc ?_ _) | (with_reducible refine Kd.C_drewN ?_ _) | (with_reducible refine Kd.C_drew ?_))); (case side2 => exact HC507.out); rintro e w' ⟨rfl, ⟨nd, rfl⟩⟩; refine ⟨_, rfl, ?_⟩; have hcz31_0 : wr.cell? ⟨gb502, 0, none⟩ = some (.int .i64 a0_0) := (blk_cell BK502.out 0).trans rfl; have hcz31_1 : wr.cell? ⟨gb502, 1, none⟩ = some (.slice A0_1 l0_1.length c0_1) := (blk_cell BK502.out 1).trans rfl; have hfz31_0 := blk_frozen BK502.out 0; have hfz31_1 := blk_frozen BK502.out 1) | (go_at_call 59; (with_reducible refine (teamsterref_Near.calls k2 a0_0 _ _ l0_1 x22_1 (rd (rd_L4 l1 x22_1) x35_2) false _ ?side1 ?side2 A25.out).mono ?_); (case side1 => repeat (first | exact (Kd.C_below HR0_1.out (by repeat (first | (with_reducible first | exact HB.out | apply below_alloc | apply pw_below_drewN | apply below_drew1 | refine below_set ?_ GE502.out) | exact HB.out))) | (with_reducible refine Kd.C_alloc ?_ _) | (with_reducible refine Kd.C_drewN ?_ _) | (with_reducible refine Kd.C_drew ?_))); (case side2 => exact HC0_1.out); rintro e w32 ⟨rfl, hb⟩; have n0_ := Aside0.mk (blk_below (g := gb502) (o := .cells #[.int .i64 a0_0, .slice A0_1 l0_1.length c0_1] 24 (0, 0)) (by (with_reducible repeat (first | refine blk_drewN ?_ _ | refine blk_drew ?_ | refine blk_alloc ?_ _)); exact BK502.out) hb); have n1_ := Aside0.mk (below_step (by repeat (first | (with_reducible first | exact HB.out | apply below_alloc | apply pw_below_drewN | apply below_drew1 | refine below_set ?_ GE502.out) | exact HB.out)) hb); clear BK502; clear HB; have BK502 := n0_; have HB := n1_; clear n0_ n1_; (try clear hb); (try clear hb2); (try clear hk); (try clear hi)))
                                  go_ret
                                  exact ⟨by first | rfl | (simp [errW_none, errW_some] <;> rfl) | (simp [*, errW_none, errW_some] <;> rfl), by repeat (first | (with_reducible first | exact HB.out | apply below_alloc | apply pw_below_drewN | apply below_drew1 | refine below_set ?_ GE502.out) | exact HB.out)⟩
                            · rw [if_neg c21] at H
                              exact absurd H (by simp)
                          · rw [if_neg c19] at H
                            exact absurd H (by simp)
                        · rw [if_neg c18] at H
                          exact absurd H (by simp)
                      · rw [if_neg c17] at H
                        have c17b0 : decide (x35_2 < ((rd_L4 l1 x22_1).length : Int)) = false := decide_eq_false c17
                        clear c17
                        have H' := Aside0.mk H
                        clear H
                        go_wp2
                        go_roundg k2
                        case measure => have := HK1.out; have := HK2.out; omega
                        case rel => exact ⟨(wrap64 (x22_1 + 1)), (by first | rfl | (simp; done) | (simp [*]; done)), H', ⟨by have := HK1.out; have := HK2.out; omega⟩, ⟨by (with_reducible repeat (first | refine blk_drewN ?_ _ | refine blk_drew ?_ | refine blk_alloc ?_ _)); exact BK502.out⟩, ⟨by repeat (first | (with_reducible first | exact HB.out | apply below_alloc | apply pw_below_drewN | apply below_drew1 | refine below_set ?_ GE502.out) | exact HB.out)⟩⟩
                · rw [if_neg c14] at H
                  have c14b0 : (((rd_L4 l1 x22_1).length : Int) == t505) = false := beq_eq_false_iff_ne.mpr c14
                  have c14b1 : (((rd_L4 l1 x22_1).length : Int) != t505) = true := bne_iff_ne.mpr c14
                  obtain rfl := Option.some.inj H
                  have p504 : 0 ≤ (x22_1 : Int) := of_decide_eq_true (by first | (with_reducible assumption) | assumption)
                  have q504 : x22_1 < (l1.length : Int) := of_decide_eq_true (by first | (with_reducible assumption) | assumption)
                  obtain ⟨ad504, A504_0, c504_0, e504, hx504_0, hl504_0, hi504_0⟩ := at_L4 HR1.out x22_1 p504 q504
                  cases e504
                  replace hx504_0 := (HB.out.cell (World.block_lt_of_cell? w _ hx504_0)).trans hx504_0
                  have HR504_0 := Aside0.mk hi504_0
                  have HC504_0 := Aside0.mk hl504_0
                  clear hi504_0 hl504_0
                  replace p504 := eq_true p504
                  replace q504 := eq_true q504
                  have hcz33_0 : wr.cell? ⟨gb502, 0, none⟩ = some (.int .i64 a0_0) := (blk_cell BK502.out 0).trans rfl
                  have hcz33_1 : wr.cell? ⟨gb502, 1, none⟩ = some (.slice A0_1 l0_1.length c0_1) := (blk_cell BK502.out 1).trans rfl
                  have hfz33_0 := blk_frozen BK502.out 0
                  have hfz33_1 := blk_frozen BK502.out 1
                  go_wp2_with (first | ((with_reducible refine gate_callee (f := 49) rfl ?_); refine goesL_ (some 31) rfl rfl Tryd.func49 (by kernel_rfl) rfl #[.agg #[.int .i64 a0_0, .slice A0_1 l0_1.length c0_1], .int .i64 x22_1] rfl (by (try simp only [List.map_toArray, List.map_cons, List.map_nil]); first | done | rfl | (simp only [List.length_drop, List.length_take]; rfl)) ?_; (with_reducible refine (teamsterref_Degree.calls k1 a0_0 _ _ l0_1 x22_1 t505 _ ?side1 ?side2 A13.out).mono ?_); (case side1 => repeat (first | exact (Kd.C_below HR0_1.out HB.out) | (with_reducible refine Kd.C_alloc ?_ _) | (with_reducible refine Kd.C_drewN ?_ _) | (with_reducible refine Kd.C_drew ?_))); (case side2 => exact HC0_1.out); rintro e w34 ⟨rfl, hb⟩; refine ⟨_, rfl, ?_⟩; have n0_ := Aside0.mk (blk_below (g := gb502) (o := .cells #[.int .i64 a0_0, .slice A0_1 l0_1.length c0_1] 24 (0, 0)) (by (with_reducible repeat (first | refine blk_drewN ?_ _ | refine blk_drew ?_ | refine blk_alloc ?_ _)); exact BK502.out) hb); have n1_ := Aside0.mk (below_step (by repeat (first | (with_reducible first | exact HB.out | apply below_alloc | apply pw_below_drewN | apply below_drew1 | refine below_set ?_ GE502.out) | exact HB.out)) hb); clear BK502; clear HB; have BK502 := n0_; have HB := n1_; clear n0_ n1_; (try clear hb); (try clear hb2); (try clear hk); (try clear hi)))
                  go_ret
                  exact ⟨by first | rfl | (simp [errW_none, errW_some] <;> rfl) | (simp [*, errW_none, errW_some] <;> rfl), by repeat (first | (with_reducible first | exact HB.out | apply below_alloc | apply pw_below_drewN | apply below_drew1 | refine below_set ?_ GE502.out) | exact HB.out)⟩
              · rw [if_neg c12] at H
                exact absurd H (by simp)
            · rw [if_neg c11] at H
              exact absurd H (by simp)
          · rw [if_neg c10] at H
            have c10b0 : decide (x22_1 < (l1.length : Int)) = false := decide_eq_false c10
            clear c10
            obtain rfl := Option.some.inj H
            go_wp2
            go_ret
            exact ⟨by first | rfl | (simp [errW_none, errW_some] <;> rfl) | (simp [*, errW_none, errW_some] <;> rfl), by repeat (first | (with_reducible first | exact HB.out | apply below_alloc | apply pw_below_drewN | apply below_drew1 | refine below_set ?_ GE502.out) | exact HB.out)⟩
    · rw [if_neg c5] at H
      have c5b0 : ((l1.length : Int) == a0_0) = false := beq_eq_false_iff_ne.mpr c5
      have c5b1 : ((l1.length : Int) != a0_0) = true := bne_iff_ne.mpr c5
      obtain rfl := Option.some.inj H
      go_enter Tryd.func24, Tryd.ntmps24
      go_wp2_with (first | ((with_reducible refine gate_dst (N := 2) rfl ?_); refine box_event ?hg (N := 2) ?hd (cs := #[.int .i64 a0_0, .slice A0_1 l0_1.length c0_1]) (t := 24) ?hr ?_; (case hd => rfl); (case hg => rfl); (case hr => first | (go_simp; done) | (go_simp; rfl)); intro gb502 hg w35 hbox hb; have n0_ := Aside0.mk (below_step (by repeat (first | (with_reducible first | exact HB.out | apply below_alloc | apply pw_below_drewN | apply below_drew1) | exact HB.out)) hb); have n1_ := Aside0.mk (hbox); have n2_ := Aside0.mk ((by rw [hg]; exact (below_size (by repeat (first | (with_reducible first | exact HB.out | apply below_alloc | apply pw_below_drewN | apply below_drew1) | exact HB.out))) : w.heap.size ≤ gb502)); have n3_ := Aside0.mk ((by rw [hg]; exact (below_size (by repeat (first | (with_reducible first | exact HB.out | apply below_alloc | apply pw_below_drewN | apply below_drew1) | exact HB.out))) : w.heap.size ≤ gb502)); clear HB; have HB := n0_; have BK502 := n1_; have GW502 := n2_; have GE502 := n3_; clear n0_ n1_ n2_ n3_; clear hb hbox hg; have hcz36_0 : w35.cell? ⟨gb502, 0, none⟩ = some (.int .i64 a0_0) := (blk_cell BK502.out 0).trans rfl; have hcz36_1 : w35.cell? ⟨gb502, 1, none⟩ = some (.slice A0_1 l0_1.length c0_1) := (blk_cell BK502.out 1).trans rfl; have hfz36_0 := blk_frozen BK502.out 0; have hfz36_1 := blk_frozen BK502.out 1) | ((with_reducible refine gate_callee (f := 12) rfl ?_); refine goesL_ (some 11) rfl rfl Tryd.func12 (by kernel_rfl) rfl #[.agg #[.int .i64 a0_0, .slice A0_1 l0_1.length c0_1]] rfl (by (try simp only [List.map_toArray, List.map_cons, List.map_nil]); first | done | rfl | (simp only [List.length_drop, List.length_take]; rfl)) ?_; (with_reducible refine (teamsterref_GraphCheck.calls k a0_0 _ _ l0_1 t503 _ ?side1 ?side2 A3.out).mono ?_); (case side1 => repeat (first | exact (Kd.C_below HR0_1.out HB.out) | (with_reducible refine Kd.C_alloc ?_ _) | (with_reducible refine Kd.C_drewN ?_ _) | (with_reducible refine Kd.C_drew ?_))); (case side2 => exact HC0_1.out); rintro e w37 ⟨rfl, hb⟩; refine ⟨_, rfl, ?_⟩; have n0_ := Aside0.mk (blk_below (g := gb502) (o := .cells #[.int .i64 a0_0, .slice A0_1 l0_1.length c0_1] 24 (0, 0)) (by (with_reducible repeat (first | refine blk_drewN ?_ _ | refine blk_drew ?_ | refine blk_alloc ?_ _)); exact BK502.out) hb); have n1_ := Aside0.mk (below_step (by repeat (first | (with_reducible first | exact HB.out | apply below_alloc | apply pw_below_drewN | apply below_drew1 | refine below_set ?_ GE502.out) | exact HB.out)) hb); clear BK502; clear HB; have BK502 := n0_; have HB := n1_; clear n0_ n1_; (try clear hb); (try clear hb2); (try clear hk); (try clear hi); have hcz38_0 : w37.cell? ⟨gb502, 0, none⟩ = some (.int .i64 a0_0) := (blk_cell BK502.out 0).trans rfl; have hcz38_1 : w37.cell? ⟨gb502, 1, none⟩ = some (.slice A0_1 l0_1.length c0_1) := (blk_cell BK502.out 1).trans rfl; have hfz38_0 := blk_frozen BK502.out 0; have hfz38_1 := blk_frozen BK502.out 1))
      go_ret
      exact ⟨by first | rfl | (simp [errW_none, errW_some] <;> rfl) | (simp [*, errW_none, errW_some] <;> rfl), by repeat (first | (with_reducible first | exact HB.out | apply below_alloc | apply pw_below_drewN | apply below_drew1 | refine below_set ?_ GE502.out) | exact HB.out)⟩
  · rw [if_neg c4] at H
    have c4b0 : (t503 == 0) = false := beq_eq_false_iff_ne.mpr c4
    have c4b1 : (t503 != 0) = true := bne_iff_ne.mpr c4
    obtain rfl := Option.some.inj H
    go_enter Tryd.func24, Tryd.ntmps24
    go_wp2_with (first | ((with_reducible refine gate_dst (N := 2) rfl ?_); refine box_event ?hg (N := 2) ?hd (cs := #[.int .i64 a0_0, .slice A0_1 l0_1.length c0_1]) (t := 24) ?hr ?_; (case hd => rfl); (case hg => rfl); (case hr => first | (go_simp; done) | (go_simp; rfl)); intro gb502 hg w39 hbox hb; have n0_ := Aside0.mk (below_step (by repeat (first | (with_reducible first | exact HB.out | apply below_alloc | apply pw_below_drewN | apply below_drew1) | exact HB.out)) hb); have n1_ := Aside0.mk (hbox); have n2_ := Aside0.mk ((by rw [hg]; exact (below_size (by repeat (first | (with_reducible first | exact HB.out | apply below_alloc | apply pw_below_drewN | apply below_drew1) | exact HB.out))) : w.heap.size ≤ gb502)); have n3_ := Aside0.mk ((by rw [hg]; exact (below_size (by repeat (first | (with_reducible first | exact HB.out | apply below_alloc | apply pw_below_drewN | apply below_drew1) | exact HB.out))) : w.heap.size ≤ gb502)); clear HB; have HB := n0_; have BK502 := n1_; have GW502 := n2_; have GE502 := n3_; clear n0_ n1_ n2_ n3_; clear hb hbox hg; have hcz40_0 : w39.cell? ⟨gb502, 0, none⟩ = some (.int .i64 a0_0) := (blk_cell BK502.out 0).trans rfl; have hcz40_1 : w39.cell? ⟨gb502, 1, none⟩ = some (.slice A0_1 l0_1.length c0_1) := (blk_cell BK502.out 1).trans rfl; have hfz40_0 := blk_frozen BK502.out 0; have hfz40_1 := blk_frozen BK502.out 1) | ((with_reducible refine gate_callee (f := 12) rfl ?_); refine goesL_ (some 11) rfl rfl Tryd.func12 (by kernel_rfl) rfl #[.agg #[.int .i64 a0_0, .slice A0_1 l0_1.length c0_1]] rfl (by (try simp only [List.map_toArray, List.map_cons, List.map_nil]); first | done | rfl | (simp only [List.length_drop, List.length_take]; rfl)) ?_; (with_reducible refine (teamsterref_GraphCheck.calls k a0_0 _ _ l0_1 t503 _ ?side1 ?side2 A3.out).mono ?_); (case side1 => repeat (first | exact (Kd.C_below HR0_1.out HB.out) | (with_reducible refine Kd.C_alloc ?_ _) | (with_reducible refine Kd.C_drewN ?_ _) | (with_reducible refine Kd.C_drew ?_))); (case side2 => exact HC0_1.out); rintro e w41 ⟨rfl, hb⟩; refine ⟨_, rfl, ?_⟩; have n0_ := Aside0.mk (blk_below (g := gb502) (o := .cells #[.int .i64 a0_0, .slice A0_1 l0_1.length c0_1] 24 (0, 0)) (by (with_reducible repeat (first | refine blk_drewN ?_ _ | refine blk_drew ?_ | refine blk_alloc ?_ _)); exact BK502.out) hb); have n1_ := Aside0.mk (below_step (by repeat (first | (with_reducible first | exact HB.out | apply below_alloc | apply pw_below_drewN | apply below_drew1 | refine below_set ?_ GE502.out) | exact HB.out)) hb); clear BK502; clear HB; have BK502 := n0_; have HB := n1_; clear n0_ n1_; (try clear hb); (try clear hb2); (try clear hk); (try clear hi)))
    go_ret
    exact ⟨by first | rfl | (simp [errW_none, errW_some] <;> rfl) | (simp [*, errW_none, errW_some] <;> rfl), by repeat (first | (with_reducible first | exact HB.out | apply below_alloc | apply pw_below_drewN | apply below_drew1 | refine below_set ?_ GE502.out) | exact HB.out)⟩

end Go.Proofs.YtoblkmbmacimiaaDoor.G
