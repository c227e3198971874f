/- The function teamsterlaw_ScoreMakes as a Lean function, and the proof that its call comes to it: written by a program for this claim. -/
import Derived.Test.YtoblkmbmacimiaaGNode
import Derived.Test.YtoblkmbmacimiaaGscoreMake
import Derived.Test.YtoblkmbmacimiaaGteamsterrefEdges
import Derived.Test.YtoblkmbmacimiaaGteamsterrefMake
namespace Go.Proofs.Ytoblkmbmacimiaa.G
open Go.RowKit Go.Proofs.YtoblkmbmacimiaaW.PrintWords Go.Proofs.YtoblkmbmacimiaaW.PrintLast Go.Proofs.YtoblkmbmacimiaaW.PrintMore
attribute [local go_sem] max2_int min2_int max_two min_two max_three min_three max_four min_four
set_option linter.unusedVariables false
set_option linter.unusedSimpArgs false

/-! ### teamsterlaw_ScoreMakes: function 7 -/
mutual
def teamsterlaw_ScoreMakes.j0 : Nat → List Int → Int → Int → Int → List (S75) → Option (Bool)
  | 0, _, _, _, _, _ => none
  | k + 1, x0, x4, x5, x171000, x171001 => (teamsterref_Make.f k x0).bind fun bt171 => (if x5 = 0 then (teamsterlaw_ScoreMakes.j1 k x4 x5 (!bt171.2.2) x171000 x171001 bt171.1 bt171.2.1) else (teamsterlaw_ScoreMakes.j1 k x4 x5 false x171000 x171001 bt171.1 bt171.2.1))
def teamsterlaw_ScoreMakes.j1 : Nat → Int → Int → Bool → Int → List (S75) → Int → List (S75) → Option (Bool)
  | 0, _, _, _, _, _, _, _ => none
  | k + 1, x4, x5, x26, x171000, x171001, x177000, x177001 => if x26 = true then (if 5 = 0 then (if x4 = 0 then (if x171000 = x177000 then ((teamsterref_Edges.f k x171001 x177001).bind fun t177 => (some t177)) else (some false)) else (some false)) else (if x4 = 5 then (if x171000 = 0 then (some ((x171001.length : Int) == 0)) else (some false)) else (some false))) else (if x5 = 0 then (if x4 = 0 then (if x171000 = x177000 then ((teamsterref_Edges.f k x171001 x177001).bind fun t178 => (some t178)) else (some false)) else (some false)) else (if x4 = x5 then (if x171000 = 0 then (some ((x171001.length : Int) == 0)) else (some false)) else (some false)))
end
def teamsterlaw_ScoreMakes.f (k : Nat) (l0 : List Int) : Option (Bool) := (score_Make.f k l0).bind fun bt165 => (if (l0.length : Int) > 10 then (teamsterlaw_ScoreMakes.j0 k l0 bt165.2.2 1 bt165.1 bt165.2.1) else (teamsterlaw_ScoreMakes.j0 k l0 bt165.2.2 0 bt165.1 bt165.2.1))
theorem teamsterlaw_ScoreMakes.mono_l : ∀ k, (∀ y0 y1 y2 y3 y4, LeO (teamsterlaw_ScoreMakes.j0 k y0 y1 y2 y3 y4) (teamsterlaw_ScoreMakes.j0 (k + 1) y0 y1 y2 y3 y4)) ∧ (∀ y0 y1 y2 y3 y4 y5 y6, LeO (teamsterlaw_ScoreMakes.j1 k y0 y1 y2 y3 y4 y5 y6) (teamsterlaw_ScoreMakes.j1 (k + 1) y0 y1 y2 y3 y4 y5 y6))
  | 0 => ⟨fun _ _ _ _ _ r h => by simp [teamsterlaw_ScoreMakes.j0] at h, fun _ _ _ _ _ _ _ r h => by simp [teamsterlaw_ScoreMakes.j1] at h⟩
  | k + 1 => by
    obtain ⟨ih0, ih1⟩ := teamsterlaw_ScoreMakes.mono_l k
    refine ⟨?_, ?_⟩
    · intro y0 y1 y2 y3 y4
      unfold teamsterlaw_ScoreMakes.j0
      repeat' first
      | (with_reducible exact ih0 _ _ _ _ _)
      | (with_reducible exact ih1 _ _ _ _ _ _ _)
      | (with_reducible exact score_Make.mono _ _)
      | (with_reducible exact teamsterref_Edges.mono _ _ _)
      | (with_reducible exact teamsterref_Make.mono _ _)
      | (with_reducible exact LeO.refl _)
      | (with_reducible exact LeO.none _)
      | (with_reducible refine LeO.ite ?_ ?_)
      | (with_reducible refine LeO.bind ?_ (fun _ => ?_))
      | exact ih0 _ _ _ _ _
      | exact ih1 _ _ _ _ _ _ _
      | exact score_Make.mono _ _
      | exact teamsterref_Edges.mono _ _ _
      | exact teamsterref_Make.mono _ _
      | exact LeO.none _
      | refine LeO.ite ?_ ?_
      | refine LeO.bind ?_ (fun _ => ?_)
    · intro y0 y1 y2 y3 y4 y5 y6
      unfold teamsterlaw_ScoreMakes.j1
      repeat' first
      | (with_reducible exact ih0 _ _ _ _ _)
      | (with_reducible exact ih1 _ _ _ _ _ _ _)
      | (with_reducible exact score_Make.mono _ _)
      | (with_reducible exact teamsterref_Edges.mono _ _ _)
      | (with_reducible exact teamsterref_Make.mono _ _)
      | (with_reducible exact LeO.refl _)
      | (with_reducible exact LeO.none _)
      | (with_reducible refine LeO.ite ?_ ?_)
      | (with_reducible refine LeO.bind ?_ (fun _ => ?_))
      | exact ih0 _ _ _ _ _
      | exact ih1 _ _ _ _ _ _ _
      | exact score_Make.mono _ _
      | exact teamsterref_Edges.mono _ _ _
      | exact teamsterref_Make.mono _ _
      | exact LeO.none _
      | refine LeO.ite ?_ ?_
      | refine LeO.bind ?_ (fun _ => ?_)
theorem teamsterlaw_ScoreMakes.mono : ∀ a0 k, LeO (teamsterlaw_ScoreMakes.f k a0) (teamsterlaw_ScoreMakes.f (k + 1) a0) := by
  intro a0 k
  obtain ⟨ih0, ih1⟩ := teamsterlaw_ScoreMakes.mono_l k
  unfold teamsterlaw_ScoreMakes.f
  repeat' first
      | (with_reducible exact ih0 _ _ _ _ _)
      | (with_reducible exact ih1 _ _ _ _ _ _ _)
      | (with_reducible exact score_Make.mono _ _)
      | (with_reducible exact teamsterref_Edges.mono _ _ _)
      | (with_reducible exact teamsterref_Make.mono _ _)
      | (with_reducible exact LeO.refl _)
      | (with_reducible exact LeO.none _)
      | (with_reducible refine LeO.ite ?_ ?_)
      | (with_reducible refine LeO.bind ?_ (fun _ => ?_))
      | exact ih0 _ _ _ _ _
      | exact ih1 _ _ _ _ _ _ _
      | exact score_Make.mono _ _
      | exact teamsterref_Edges.mono _ _ _
      | exact teamsterref_Make.mono _ _
      | exact LeO.none _
      | refine LeO.ite ?_ ?_
      | refine LeO.bind ?_ (fun _ => ?_)
set_option maxHeartbeats 8000000 in
set_option maxRecDepth 100000 in
theorem teamsterlaw_ScoreMakes.calls (k : Nat) (A0 : Option Addr) (c0 : Nat) (l0 : List Int) (r : Bool) (w : World) (hr0 : Kd.C (Kd.int .i64) w A0 l0.length l0) (hc0 : l0.length ≤ c0) (h : teamsterlaw_ScoreMakes.f k l0 = some r) :
    Calls Try.prog 7 #[.slice A0 l0.length c0] w fun e w' => e = .returned (.bool r) ∧ Below w.heap.size w w' := by
  have hu24 := Try.underlying24
  have HR0 := Aside0.mk hr0
  have HC0 := Aside0.mk hc0
  clear hr0 hc0
  have HB := Aside0.mk (Below.refl w.heap.size w)
  have H : ((score_Make.f k l0).bind fun bt165 => (if (l0.length : Int) > 10 then (teamsterlaw_ScoreMakes.j0 k l0 bt165.2.2 1 bt165.1 bt165.2.1) else (teamsterlaw_ScoreMakes.j0 k l0 bt165.2.2 0 bt165.1 bt165.2.1))) = some r := h
  clear h
  replace H := Option.bind_eq_some_iff.mp H
  obtain ⟨⟨t165, t166, t169⟩, A20, H⟩ := H
  replace H : (if (l0.length : Int) > 10 then (teamsterlaw_ScoreMakes.j0 k l0 t169 1 t165 t166) else (teamsterlaw_ScoreMakes.j0 k l0 t169 0 t165 t166)) = some r := H
  have A2 := Aside0.mk A20
  clear A20
  have HC3 := Aside0.mk H
  clear H
  go_enter Try.func7, Try.ntmps7
  go_upto_if 15 with (first | ((with_reducible refine gate_callee (f := 26) rfl ?_); refine goesL_ (some 10) rfl rfl Try.func26 (by kernel_rfl) rfl #[.slice A0 l0.length c0] rfl (by (try simp only [List.map_toArray, List.map_cons, List.map_nil]); first | done | rfl | (simp only [List.length_drop, List.length_take]; rfl)) ?_; (with_reducible refine (score_Make.calls k _ _ l0 t165 t166 t169 _ ?side1 ?side2 A2.out).mono ?_); (case side1 => repeat (first | exact HR0.out | (with_reducible refine Kd.C_alloc ?_ _) | (with_reducible refine Kd.C_drewN ?_ _) | (with_reducible refine Kd.C_drew ?_))); (case side2 => exact HC0.out); rintro e w4 ⟨v167, rfl, ho0, hb⟩; refine ⟨_, rfl, ?_⟩; have n0_ := Aside0.mk (Kd.R_lower ho0 (below_size (by repeat (first | (with_reducible first | exact HB.out | apply below_alloc | apply pw_below_drewN | apply below_drew1) | exact HB.out)))); have n1_ := Aside0.mk (below_step (by repeat (first | (with_reducible first | exact HB.out | apply below_alloc | apply pw_below_drewN | apply below_drew1) | exact HB.out)) hb); clear HB; have HO168 := n0_; have HB := n1_; clear n0_ n1_; (try clear hb); (try clear hb2); (try clear hk); (try clear hi); (try clear ho0)) | ((with_reducible refine gate_dst (N := 3) rfl ?_); (try (refine gate_guard (by rfl) ?_; dsimp only)); refine box_event ?hg (N := 3) ?hd (cs := #[.int .i64 0, .slice none 0 0]) (t := 24) ?hr ?_; (case hd => rfl); (case hg => rfl); (case hr => first | (go_simp; done) | (go_simp; rfl)); intro gb170 hg w5 hbox hb; have n0_ := Aside0.mk (Kd.R_below (by (with_reducible repeat (first | apply Kd.R_alloc | apply Kd.R_drewN | apply Kd.R_drew)); exact HO168.out) hb); have n1_ := Aside0.mk (below_step (by repeat (first | (with_reducible first | exact HB.out | apply below_alloc | apply pw_below_drewN | apply below_drew1) | exact HB.out)) hb); have n2_ := Aside0.mk (hbox); have n3_ := Aside0.mk ((by rw [hg]; exact (below_size (by repeat (first | (with_reducible first | exact HB.out | apply below_alloc | apply pw_below_drewN | apply below_drew1) | exact HB.out))) : w.heap.size ≤ gb170)); have n4_ := Aside0.mk ((by rw [hg]; exact (below_size (by repeat (first | (with_reducible first | exact HB.out | apply below_alloc | apply pw_below_drewN | apply below_drew1) | exact HB.out))) : w.heap.size ≤ gb170)); clear HO168; clear HB; have HO168 := n0_; have HB := n1_; have BK170 := n2_; have GW170 := n3_; have GE170 := n4_; clear n0_ n1_ n2_ n3_ n4_; clear hb hbox hg; have hcz6_0 : w5.cell? ⟨gb170, 0, none⟩ = some (.int .i64 0) := (blk_cell BK170.out 0).trans rfl; have hcz6_1 : w5.cell? ⟨gb170, 1, none⟩ = some (.slice none 0 0) := (blk_cell BK170.out 1).trans rfl; have hfz6_0 := blk_frozen BK170.out 0; have hfz6_1 := blk_frozen BK170.out 1; obtain ⟨Ao7, co7, eo7⟩ := Kd.R_slice HO168.out; subst eo7))
  (try simp only [Act.put, List.setIfInBounds_toArray, List.set_cons_zero, List.set_cons_succ])
  go_cut [5] (fun v5 wc => ∃ (kq : Nat) (x5_2 : Int), v5 = .int .i64 x5_2 ∧ Aside0 (teamsterlaw_ScoreMakes.j0 kq l0 t169 x5_2 t165 t166 = some r) ∧ Aside0 (kq ≤ k) ∧ Aside0 (Kd.R k75 75 wc w.heap.size (fun _ => True) (.slice Ao7 t166.length co7) t166) ∧ Aside0 (wc.heap[gb170]? = some (.cells #[.int .i64 t165, (.slice Ao7 t166.length co7)] 24 (0, 0))) ∧ Aside0 (Below w.heap.size w wc))
  case first =>
    have H := HC3.out
    clear HC3
    by_cases c8 : (l0.length : Int) > 10
    · rw [if_pos c8] at H
      have c8b0 : decide (10 < (l0.length : Int)) = true := decide_eq_true c8
      have c8b1 : decide (10 < l0.length) = true := decide_eq_true (by omega)
      clear c8
      (first | rw [c8b0] | (simp only [i64_w, i32_w]; rw [c8b0]) | skip)
      have H' := Aside0.mk H
      clear H
      go_wp2
      go_meet
      case rel => exact ⟨_, (1), (by first | rfl | (simp; done) | (simp [*]; done)), H', ⟨by first | omega | exact Nat.le_refl _⟩, ⟨by (with_reducible repeat (first | apply Kd.R_alloc | apply Kd.R_drewN | apply Kd.R_drew)); exact Kd.R_mono (Kd.R_far (p := ⟨gb170, 1, none⟩) (Kd.R_far (p := ⟨gb170, 0, none⟩) (Kd.R_types HO168.out BK170.out (by decide)) (fun _ hk => hk.2) (.int .i64 t165)) (fun _ hk => hk.2) (.slice Ao7 t166.length co7)) (fun _ hk => trivial)⟩, ⟨by (with_reducible repeat (first | refine blk_drewN ?_ _ | refine blk_drew ?_ | refine blk_alloc ?_ _)); refine blk_put (cs := #[.int .i64 t165, .slice none 0 0]) ?_ 1 _ rfl; (with_reducible repeat (first | refine blk_drewN ?_ _ | refine blk_drew ?_ | refine blk_alloc ?_ _)); refine blk_put (cs := #[.int .i64 0, .slice none 0 0]) ?_ 0 _ rfl; (with_reducible repeat (first | refine blk_drewN ?_ _ | refine blk_drew ?_ | refine blk_alloc ?_ _)); exact BK170.out⟩, ⟨by repeat (first | (with_reducible first | exact HB.out | apply below_alloc | apply pw_below_drewN | apply below_drew1 | refine below_set ?_ GE170.out) | exact HB.out)⟩⟩
    · rw [if_neg c8] at H
      have c8b0 : decide (10 < (l0.length : Int)) = false := decide_eq_false c8
      have c8b1 : decide (10 < l0.length) = false := decide_eq_false (by omega)
      clear c8
      (first | rw [c8b0] | (simp only [i64_w, i32_w]; rw [c8b0]) | skip)
      have H' := Aside0.mk H
      clear H
      go_wp2
      go_meet
      case rel => exact ⟨_, (0), (by first | rfl | (simp; done) | (simp [*]; done)), H', ⟨by first | omega | exact Nat.le_refl _⟩, ⟨by (with_reducible repeat (first | apply Kd.R_alloc | apply Kd.R_drewN | apply Kd.R_drew)); exact Kd.R_mono (Kd.R_far (p := ⟨gb170, 1, none⟩) (Kd.R_far (p := ⟨gb170, 0, none⟩) (Kd.R_types HO168.out BK170.out (by decide)) (fun _ hk => hk.2) (.int .i64 t165)) (fun _ hk => hk.2) (.slice Ao7 t166.length co7)) (fun _ hk => trivial)⟩, ⟨by (with_reducible repeat (first | refine blk_drewN ?_ _ | refine blk_drew ?_ | refine blk_alloc ?_ _)); refine blk_put (cs := #[.int .i64 t165, .slice none 0 0]) ?_ 1 _ rfl; (with_reducible repeat (first | refine blk_drewN ?_ _ | refine blk_drew ?_ | refine blk_alloc ?_ _)); refine blk_put (cs := #[.int .i64 0, .slice none 0 0]) ?_ 0 _ rfl; (with_reducible repeat (first | refine blk_drewN ?_ _ | refine blk_drew ?_ | refine blk_alloc ?_ _)); exact BK170.out⟩, ⟨by repeat (first | (with_reducible first | exact HB.out | apply below_alloc | apply pw_below_drewN | apply below_drew1 | refine below_set ?_ GE170.out) | exact HB.out)⟩⟩
  case rest =>
    clear HC3
    try clear c2
    try clear p2
    try clear c7
    try clear c8
    try clear c8b0
    try clear c8b1
    try clear hcz6_0
    try clear hcz6_1
    try clear hfz6_0
    try clear hfz6_1
    obtain ⟨kq, x5_2, rfl, HA, HJ2, HO_171001, BK170, HB⟩ := hcut
    cases kq with
    | zero => exact absurd HA.out (by simp [teamsterlaw_ScoreMakes.j0])
    | succ kj2 =>
      have H := HA.out
      clear HA
      simp only [teamsterlaw_ScoreMakes.j0] at H
      replace H := Option.bind_eq_some_iff.mp H
      obtain ⟨⟨t171, t172, t175⟩, A90, H⟩ := H
      replace H : (if x5_2 = 0 then (teamsterlaw_ScoreMakes.j1 kj2 t169 x5_2 (!t175) t165 t166 t171 t172) else (teamsterlaw_ScoreMakes.j1 kj2 t169 x5_2 false t165 t166 t171 t172)) = some r := H
      have A9 := Aside0.mk A90
      clear A90
      have HC10 := Aside0.mk H
      clear H
      go_upto_region 6 with (first | ((with_reducible refine gate_callee (f := 25) rfl ?_); refine goesL_ (some 18) rfl rfl Try.func25 (by kernel_rfl) rfl #[.slice A0 l0.length c0] rfl (by (try simp only [List.map_toArray, List.map_cons, List.map_nil]); first | done | rfl | (simp only [List.length_drop, List.length_take]; rfl)) ?_; (with_reducible refine (teamsterref_Make.calls kj2 _ _ l0 t171 t172 t175 _ ?side1 ?side2 A9.out).mono ?_); (case side1 => repeat (first | exact (Kd.C_below HR0.out HB.out) | (with_reducible refine Kd.C_alloc ?_ _) | (with_reducible refine Kd.C_drewN ?_ _) | (with_reducible refine Kd.C_drew ?_))); (case side2 => exact HC0.out); rintro e w11 ⟨v173, rfl, ho0, hb⟩; refine ⟨_, rfl, ?_⟩; have n0_ := Aside0.mk (Kd.R_elder' (by (with_reducible repeat (first | apply Kd.R_alloc | apply Kd.R_drewN | apply Kd.R_drew)); exact HO_171001.out) (Kd.R_base ho0) hb); have n1_ := Aside0.mk (Kd.R_lower (Kd.R_new' ho0 (Kd.R_lt (by (with_reducible repeat (first | apply Kd.R_alloc | apply Kd.R_drewN | apply Kd.R_drew)); exact HO_171001.out))) (below_size (by repeat (first | (with_reducible first | exact HB.out | apply below_alloc | apply pw_below_drewN | apply below_drew1 | refine below_set ?_ GE170.out) | exact HB.out)))); have n2_ := Aside0.mk (blk_below (g := gb170) (o := .cells #[.int .i64 t165, .slice Ao7 t166.length co7] 24 (0, 0)) (by (with_reducible repeat (first | refine blk_drewN ?_ _ | refine blk_drew ?_ | refine blk_alloc ?_ _)); exact BK170.out) hb); have n3_ := Aside0.mk (below_step (by repeat (first | (with_reducible first | exact HB.out | apply below_alloc | apply pw_below_drewN | apply below_drew1 | refine below_set ?_ GE170.out) | exact HB.out)) hb); clear HO_171001; clear BK170; clear HB; have HO_171001 := n0_; have HO174 := n1_; have BK170 := n2_; have HB := n3_; clear n0_ n1_ n2_ n3_; (try clear hb); (try clear hb2); (try clear hk); (try clear hi); (try clear ho0)) | ((with_reducible refine gate_dst (N := 6) rfl ?_); (try (refine gate_guard (by rfl) ?_; dsimp only)); refine box_event ?hg (N := 6) ?hd (cs := #[.int .i64 0, .slice none 0 0]) (t := 24) ?hr ?_; (case hd => rfl); (case hg => rfl); (case hr => first | (go_simp; done) | (go_simp; rfl)); intro gb176 hg w12 hbox hb; have n0_ := Aside0.mk (Kd.R_below (by (with_reducible repeat (first | apply Kd.R_alloc | apply Kd.R_drewN | apply Kd.R_drew)); exact HO_171001.out) hb); have n1_ := Aside0.mk (Kd.R_below (by (with_reducible repeat (first | apply Kd.R_alloc | apply Kd.R_drewN | apply Kd.R_drew)); exact HO174.out) hb); have n2_ := Aside0.mk (blk_below (g := gb170) (o := .cells #[.int .i64 t165, .slice Ao7 t166.length co7] 24 (0, 0)) (by (with_reducible repeat (first | refine blk_drewN ?_ _ | refine blk_drew ?_ | refine blk_alloc ?_ _)); exact BK170.out) hb); have n3_ := Aside0.mk (below_step (by repeat (first | (with_reducible first | exact HB.out | apply below_alloc | apply pw_below_drewN | apply below_drew1 | refine below_set ?_ GE170.out) | exact HB.out)) hb); have n4_ := Aside0.mk (hbox); have n5_ := Aside0.mk ((by rw [hg]; exact (below_size (by repeat (first | (with_reducible first | exact HB.out | apply below_alloc | apply pw_below_drewN | apply below_drew1 | refine below_set ?_ GE170.out) | exact HB.out))) : w.heap.size ≤ gb176)); have n6_ := Aside0.mk ((by rw [hg]; exact (below_size (by repeat (first | (with_reducible first | exact HB.out | apply below_alloc | apply pw_below_drewN | apply below_drew1 | refine below_set ?_ GE170.out) | exact HB.out))) : w.heap.size ≤ gb176)); have n7_ := Aside0.mk ((by rw [hg]; exact Nat.ne_of_lt (blk_lt (g := gb170) (o := .cells #[.int .i64 t165, .slice Ao7 t166.length co7] 24 (0, 0)) (by (with_reducible repeat (first | refine blk_drewN ?_ _ | refine blk_drew ?_ | refine blk_alloc ?_ _)); exact BK170.out)) : gb170 ≠ gb176)); have n8_ := Aside0.mk ((by rw [hg]; exact Nat.ne_of_gt (blk_lt (g := gb170) (o := .cells #[.int .i64 t165, .slice Ao7 t166.length co7] 24 (0, 0)) (by (with_reducible repeat (first | refine blk_drewN ?_ _ | refine blk_drew ?_ | refine blk_alloc ?_ _)); exact BK170.out)) : gb176 ≠ gb170)); clear HO_171001; clear HO174; clear BK170; clear HB; have HO_171001 := n0_; have HO174 := n1_; have BK170 := n2_; have HB := n3_; have BK176 := n4_; have GW176 := n5_; have GE176 := n6_; have NB170_176 := n7_; have NB176_170 := n8_; clear n0_ n1_ n2_ n3_ n4_ n5_ n6_ n7_ n8_; clear hb hbox hg; have hnb13 := NB176_170.out; have hnc13 := NB170_176.out; have hcz14_0 : w12.cell? ⟨gb176, 0, none⟩ = some (.int .i64 0) := (blk_cell BK176.out 0).trans rfl; have hcz14_1 : w12.cell? ⟨gb176, 1, none⟩ = some (.slice none 0 0) := (blk_cell BK176.out 1).trans rfl; have hfz14_0 := blk_frozen BK176.out 0; have hfz14_1 := blk_frozen BK176.out 1; obtain ⟨Ao15, co15, eo15⟩ := Kd.R_slice HO174.out; subst eo15))
      (try simp only [Act.put, List.setIfInBounds_toArray, List.set_cons_zero, List.set_cons_succ])
      go_cut [26] (fun v26 wc => ∃ (kq : Nat) (x26_9 : Bool), v26 = .bool x26_9 ∧ Aside0 (teamsterlaw_ScoreMakes.j1 kq t169 x5_2 x26_9 t165 t166 t171 t172 = some r) ∧ Aside0 (kq ≤ kj2) ∧ Aside0 (Kd.R k75 75 wc w.heap.size (fun k_ => some k_ ≠ ((.slice Ao15 t172.length co15) : Value).ownBlock) (.slice Ao7 t166.length co7) t166) ∧ Aside0 (Kd.R k75 75 wc w.heap.size (fun k_ => some k_ ≠ ((.slice Ao7 t166.length co7) : Value).ownBlock) (.slice Ao15 t172.length co15) t172) ∧ Aside0 (wc.heap[gb170]? = some (.cells #[.int .i64 t165, (.slice Ao7 t166.length co7)] 24 (0, 0))) ∧ Aside0 (wc.heap[gb176]? = some (.cells #[.int .i64 t171, (.slice Ao15 t172.length co15)] 24 (0, 0))) ∧ Aside0 (Below w.heap.size w wc))
      case first =>
        have H := HC10.out
        clear HC10
        by_cases c16 : x5_2 = 0
        · rw [if_pos c16] at H
          have c16b0 : (x5_2 == 0) = true := beq_iff_eq.mpr c16
          have c16b1 : (x5_2 != 0) = false := bne_eq_false_iff_eq.mpr c16
          clear c16
          (first | rw [c16b0] | (simp only [i64_w, i32_w]; rw [c16b0]) | skip)
          have H' := Aside0.mk H
          clear H
          go_wp2
          go_meet
          case rel => exact ⟨_, (!t175), (by first | rfl | (simp; done) | (simp [*]; done)), H', ⟨by have := HJ2.out; first | omega | exact Nat.le_refl _⟩, ⟨by (with_reducible repeat (first | apply Kd.R_alloc | apply Kd.R_drewN | apply Kd.R_drew)); exact Kd.R_mono (Kd.R_far (p := ⟨gb176, 1, none⟩) (Kd.R_far (p := ⟨gb176, 0, none⟩) (Kd.R_types HO_171001.out BK176.out (by decide)) (fun _ hk => hk.2) (.int .i64 t171)) (fun _ hk => hk.2) (.slice Ao15 t172.length co15)) (fun _ hk => hk.1.2)⟩, ⟨by (with_reducible repeat (first | apply Kd.R_alloc | apply Kd.R_drewN | apply Kd.R_drew)); exact Kd.R_mono (Kd.R_far (p := ⟨gb176, 1, none⟩) (Kd.R_far (p := ⟨gb176, 0, none⟩) (Kd.R_types HO174.out BK176.out (by decide)) (fun _ hk => hk.2) (.int .i64 t171)) (fun _ hk => hk.2) (.slice Ao15 t172.length co15)) (fun _ hk => hk.1.2)⟩, ⟨by (with_reducible repeat (first | refine blk_drewN ?_ _ | refine blk_drew ?_ | refine blk_alloc ?_ _)); refine blk_far ?_ NB170_176.out _; (with_reducible repeat (first | refine blk_drewN ?_ _ | refine blk_drew ?_ | refine blk_alloc ?_ _)); refine blk_far ?_ NB170_176.out _; (with_reducible repeat (first | refine blk_drewN ?_ _ | refine blk_drew ?_ | refine blk_alloc ?_ _)); exact BK170.out⟩, ⟨by (with_reducible repeat (first | refine blk_drewN ?_ _ | refine blk_drew ?_ | refine blk_alloc ?_ _)); refine blk_put (cs := #[.int .i64 t171, .slice none 0 0]) ?_ 1 _ rfl; (with_reducible repeat (first | refine blk_drewN ?_ _ | refine blk_drew ?_ | refine blk_alloc ?_ _)); refine blk_put (cs := #[.int .i64 0, .slice none 0 0]) ?_ 0 _ rfl; (with_reducible repeat (first | refine blk_drewN ?_ _ | refine blk_drew ?_ | refine blk_alloc ?_ _)); exact BK176.out⟩, ⟨by repeat (first | (with_reducible first | exact HB.out | apply below_alloc | apply pw_below_drewN | apply below_drew1 | refine below_set ?_ GE170.out | refine below_set ?_ GE176.out) | exact HB.out)⟩⟩
        · rw [if_neg c16] at H
          have c16b0 : (x5_2 == 0) = false := beq_eq_false_iff_ne.mpr c16
          have c16b1 : (x5_2 != 0) = true := bne_iff_ne.mpr c16
          (first | rw [c16b0] | (simp only [i64_w, i32_w]; rw [c16b0]) | skip)
          have H' := Aside0.mk H
          clear H
          go_wp2
          go_meet
          case rel => exact ⟨_, (false), (by first | rfl | (simp; done) | (simp [*]; done)), H', ⟨by have := HJ2.out; first | omega | exact Nat.le_refl _⟩, ⟨by (with_reducible repeat (first | apply Kd.R_alloc | apply Kd.R_drewN | apply Kd.R_drew)); exact Kd.R_mono (Kd.R_far (p := ⟨gb176, 1, none⟩) (Kd.R_far (p := ⟨gb176, 0, none⟩) (Kd.R_types HO_171001.out BK176.out (by decide)) (fun _ hk => hk.2) (.int .i64 t171)) (fun _ hk => hk.2) (.slice Ao15 t172.length co15)) (fun _ hk => hk.1.2)⟩, ⟨by (with_reducible repeat (first | apply Kd.R_alloc | apply Kd.R_drewN | apply Kd.R_drew)); exact Kd.R_mono (Kd.R_far (p := ⟨gb176, 1, none⟩) (Kd.R_far (p := ⟨gb176, 0, none⟩) (Kd.R_types HO174.out BK176.out (by decide)) (fun _ hk => hk.2) (.int .i64 t171)) (fun _ hk => hk.2) (.slice Ao15 t172.length co15)) (fun _ hk => hk.1.2)⟩, ⟨by (with_reducible repeat (first | refine blk_drewN ?_ _ | refine blk_drew ?_ | refine blk_alloc ?_ _)); refine blk_far ?_ NB170_176.out _; (with_reducible repeat (first | refine blk_drewN ?_ _ | refine blk_drew ?_ | refine blk_alloc ?_ _)); refine blk_far ?_ NB170_176.out _; (with_reducible repeat (first | refine blk_drewN ?_ _ | refine blk_drew ?_ | refine blk_alloc ?_ _)); exact BK170.out⟩, ⟨by (with_reducible repeat (first | refine blk_drewN ?_ _ | refine blk_drew ?_ | refine blk_alloc ?_ _)); refine blk_put (cs := #[.int .i64 t171, .slice none 0 0]) ?_ 1 _ rfl; (with_reducible repeat (first | refine blk_drewN ?_ _ | refine blk_drew ?_ | refine blk_alloc ?_ _)); refine blk_put (cs := #[.int .i64 0, .slice none 0 0]) ?_ 0 _ rfl; (with_reducible repeat (first | refine blk_drewN ?_ _ | refine blk_drew ?_ | refine blk_alloc ?_ _)); exact BK176.out⟩, ⟨by repeat (first | (with_reducible first | exact HB.out | apply below_alloc | apply pw_below_drewN | apply below_drew1 | refine below_set ?_ GE170.out | refine below_set ?_ GE176.out) | exact HB.out)⟩⟩
      case rest =>
        clear HC10
        try clear c1
        try clear c2
        try clear p2
        try clear c7
        try clear c8
        try clear c8b0
        try clear c8b1
        try clear c13
        try clear c16
        try clear c16b0
        try clear c16b1
        try clear hcz14_0
        try clear hcz14_1
        try clear hcz6_0
        try clear hcz6_1
        try clear hfz14_0
        try clear hfz14_1
        try clear hfz6_0
        try clear hfz6_1
        try clear p2
        obtain ⟨kq, x26_9, rfl, HA, HJ9, HO_171001, HO_177001, BK170, BK176, HB⟩ := hcut
        cases kq with
        | zero => exact absurd HA.out (by simp [teamsterlaw_ScoreMakes.j1])
        | succ kj9 =>
          have H := HA.out
          clear HA
          simp only [teamsterlaw_ScoreMakes.j1] at H
          by_cases c17 : x26_9 = true
          · subst c17
            have H1 : (if 5 = 0 then (if t169 = 0 then (if t165 = t171 then ((teamsterref_Edges.f kj9 t166 t172).bind fun t177 => (some t177)) else (some false)) else (some false)) else (if t169 = 5 then (if t165 = 0 then (some ((t166.length : Int) == 0)) else (some false)) else (some false))) = some r := by rw [if_pos rfl] at H; exact H
            clear H
            have H := H1
            clear H1
            by_cases c18 : 5 = 0
            · rw [if_pos c18] at H
              have c18b0 : (5 == 0) = true := beq_iff_eq.mpr c18
              have c18b1 : (5 != 0) = false := bne_eq_false_iff_eq.mpr c18
              clear c18
              by_cases c19 : t169 = 0
              · rw [if_pos c19] at H
                have c19b0 : (t169 == 0) = true := beq_iff_eq.mpr c19
                have c19b1 : (t169 != 0) = false := bne_eq_false_iff_eq.mpr c19
                clear c19
                by_cases c20 : t165 = t171
                · rw [if_pos c20] at H
                  have c20b0 : (t165 == t171) = true := beq_iff_eq.mpr c20
                  have c20b1 : (t165 != t171) = false := bne_eq_false_iff_eq.mpr c20
                  clear c20
                  replace H := Option.bind_eq_some_iff.mp H
                  obtain ⟨t177, A210, H⟩ := H
                  replace H : (some t177) = some r := H
                  have A21 := Aside0.mk A210
                  clear A210
                  obtain rfl := Option.some.inj H
                  have hnb22 := NB170_176.out
                  have hnc22 := NB176_170.out
                  have hcz23_0 : wc.cell? ⟨gb170, 0, none⟩ = some (.int .i64 t165) := (blk_cell BK170.out 0).trans rfl
                  have hcz23_1 : wc.cell? ⟨gb170, 1, none⟩ = some (.slice Ao7 t166.length co7) := (blk_cell BK170.out 1).trans rfl
                  have hfz23_0 := blk_frozen BK170.out 0
                  have hfz23_1 := blk_frozen BK170.out 1
                  have hcz24_0 : wc.cell? ⟨gb176, 0, none⟩ = some (.int .i64 t171) := (blk_cell BK176.out 0).trans rfl
                  have hcz24_1 : wc.cell? ⟨gb176, 1, none⟩ = some (.slice Ao15 t172.length co15) := (blk_cell BK176.out 1).trans rfl
                  have hfz24_0 := blk_frozen BK176.out 0
                  have hfz24_1 := blk_frozen BK176.out 1
                  go_wp2_with (first | (go_at_call 27; (with_reducible refine (teamsterref_Edges.calls kj9 _ _ t166 _ _ t172 t177 _ ?side1 ?side2 ?side3 ?side4 A21.out).mono ?_); (case side1 => repeat (first | exact (Kd.R_reads' HO_171001.out).2.2 | (with_reducible refine Kd.C_alloc ?_ _) | (with_reducible refine Kd.C_drewN ?_ _) | (with_reducible refine Kd.C_drew ?_))); (case side2 => exact (Kd.R_reads' HO_171001.out).2.1); (case side3 => repeat (first | exact (Kd.R_reads' HO_177001.out).2.2 | (with_reducible refine Kd.C_alloc ?_ _) | (with_reducible refine Kd.C_drewN ?_ _) | (with_reducible refine Kd.C_drew ?_))); (case side4 => exact (Kd.R_reads' HO_177001.out).2.1); rintro e w' ⟨rfl, ⟨nd, rfl⟩⟩))
                  all_goals go_ret
                  all_goals exact ⟨by first | rfl | (simp [errW_none, errW_some] <;> rfl) | (simp [*, errW_none, errW_some] <;> rfl), by repeat (first | (with_reducible first | exact HB.out | apply below_alloc | apply pw_below_drewN | apply below_drew1 | refine below_set ?_ GE170.out | refine below_set ?_ GE176.out) | exact HB.out)⟩
                · rw [if_neg c20] at H
                  have c20b0 : (t165 == t171) = false := beq_eq_false_iff_ne.mpr c20
                  have c20b1 : (t165 != t171) = true := bne_iff_ne.mpr c20
                  obtain rfl := Option.some.inj H
                  have hnb25 := NB170_176.out
                  have hnc25 := NB176_170.out
                  have hcz26_0 : wc.cell? ⟨gb170, 0, none⟩ = some (.int .i64 t165) := (blk_cell BK170.out 0).trans rfl
                  have hcz26_1 : wc.cell? ⟨gb170, 1, none⟩ = some (.slice Ao7 t166.length co7) := (blk_cell BK170.out 1).trans rfl
                  have hfz26_0 := blk_frozen BK170.out 0
                  have hfz26_1 := blk_frozen BK170.out 1
                  have hcz27_0 : wc.cell? ⟨gb176, 0, none⟩ = some (.int .i64 t171) := (blk_cell BK176.out 0).trans rfl
                  have hcz27_1 : wc.cell? ⟨gb176, 1, none⟩ = some (.slice Ao15 t172.length co15) := (blk_cell BK176.out 1).trans rfl
                  have hfz27_0 := blk_frozen BK176.out 0
                  have hfz27_1 := blk_frozen BK176.out 1
                  go_wp2
                  all_goals go_ret
                  all_goals exact ⟨by first | rfl | (simp [errW_none, errW_some] <;> rfl) | (simp [*, errW_none, errW_some] <;> rfl), by repeat (first | (with_reducible first | exact HB.out | apply below_alloc | apply pw_below_drewN | apply below_drew1 | refine below_set ?_ GE170.out | refine below_set ?_ GE176.out) | exact HB.out)⟩
              · rw [if_neg c19] at H
                have c19b0 : (t169 == 0) = false := beq_eq_false_iff_ne.mpr c19
                have c19b1 : (t169 != 0) = true := bne_iff_ne.mpr c19
                obtain rfl := Option.some.inj H
                go_wp2
                all_goals go_ret
                all_goals exact ⟨by first | rfl | (simp [errW_none, errW_some] <;> rfl) | (simp [*, errW_none, errW_some] <;> rfl), by repeat (first | (with_reducible first | exact HB.out | apply below_alloc | apply pw_below_drewN | apply below_drew1 | refine below_set ?_ GE170.out | refine below_set ?_ GE176.out) | exact HB.out)⟩
            · rw [if_neg c18] at H
              have c18b0 : (5 == 0) = false := beq_eq_false_iff_ne.mpr c18
              have c18b1 : (5 != 0) = true := bne_iff_ne.mpr c18
              by_cases c28 : t169 = 5
              · rw [if_pos c28] at H
                have c28b0 : (t169 == 5) = true := beq_iff_eq.mpr c28
                have c28b1 : (t169 != 5) = false := bne_eq_false_iff_eq.mpr c28
                clear c28
                by_cases c29 : t165 = 0
                · rw [if_pos c29] at H
                  have c29b0 : (t165 == 0) = true := beq_iff_eq.mpr c29
                  have c29b1 : (t165 != 0) = false := bne_eq_false_iff_eq.mpr c29
                  clear c29
                  obtain rfl := Option.some.inj H
                  have hnb30 := NB170_176.out
                  have hnc30 := NB176_170.out
                  have hcz31_0 : wc.cell? ⟨gb170, 0, none⟩ = some (.int .i64 t165) := (blk_cell BK170.out 0).trans rfl
                  have hcz31_1 : wc.cell? ⟨gb170, 1, none⟩ = some (.slice Ao7 t166.length co7) := (blk_cell BK170.out 1).trans rfl
                  have hfz31_0 := blk_frozen BK170.out 0
                  have hfz31_1 := blk_frozen BK170.out 1
                  go_wp2
                  go_ret
                  exact ⟨by first | rfl | (simp [errW_none, errW_some] <;> rfl) | (simp [*, errW_none, errW_some] <;> rfl), by repeat (first | (with_reducible first | exact HB.out | apply below_alloc | apply pw_below_drewN | apply below_drew1 | refine below_set ?_ GE170.out | refine below_set ?_ GE176.out) | exact HB.out)⟩
                · rw [if_neg c29] at H
                  have c29b0 : (t165 == 0) = false := beq_eq_false_iff_ne.mpr c29
                  have c29b1 : (t165 != 0) = true := bne_iff_ne.mpr c29
                  obtain rfl := Option.some.inj H
                  have hnb32 := NB170_176.out
                  have hnc32 := NB176_170.out
                  have hcz33_0 : wc.cell? ⟨gb170, 0, none⟩ = some (.int .i64 t165) := (blk_cell BK170.out 0).trans rfl
                  have hcz33_1 : wc.cell? ⟨gb170, 1, none⟩ = some (.slice Ao7 t166.length co7) := (blk_cell BK170.out 1).trans rfl
                  have hfz33_0 := blk_frozen BK170.out 0
                  have hfz33_1 := blk_frozen BK170.out 1
                  go_wp2
                  go_ret
                  exact ⟨by first | rfl | (simp [errW_none, errW_some] <;> rfl) | (simp [*, errW_none, errW_some] <;> rfl), by repeat (first | (with_reducible first | exact HB.out | apply below_alloc | apply pw_below_drewN | apply below_drew1 | refine below_set ?_ GE170.out | refine below_set ?_ GE176.out) | exact HB.out)⟩
              · rw [if_neg c28] at H
                have c28b0 : (t169 == 5) = false := beq_eq_false_iff_ne.mpr c28
                have c28b1 : (t169 != 5) = true := bne_iff_ne.mpr c28
                obtain rfl := Option.some.inj H
                go_wp2
                go_ret
                exact ⟨by first | rfl | (simp [errW_none, errW_some] <;> rfl) | (simp [*, errW_none, errW_some] <;> rfl), by repeat (first | (with_reducible first | exact HB.out | apply below_alloc | apply pw_below_drewN | apply below_drew1 | refine below_set ?_ GE170.out | refine below_set ?_ GE176.out) | exact HB.out)⟩
          · replace c17 := Bool.eq_false_iff.mpr c17
            subst c17
            have H1 : (if x5_2 = 0 then (if t169 = 0 then (if t165 = t171 then ((teamsterref_Edges.f kj9 t166 t172).bind fun t178 => (some t178)) else (some false)) else (some false)) else (if t169 = x5_2 then (if t165 = 0 then (some ((t166.length : Int) == 0)) else (some false)) else (some false))) = some r := by rw [if_neg (show ¬ (false = true) by decide)] at H; exact H
            clear H
            have H := H1
            clear H1
            by_cases c34 : x5_2 = 0
            · rw [if_pos c34] at H
              have c34b0 : (x5_2 == 0) = true := beq_iff_eq.mpr c34
              have c34b1 : (x5_2 != 0) = false := bne_eq_false_iff_eq.mpr c34
              clear c34
              by_cases c35 : t169 = 0
              · rw [if_pos c35] at H
                have c35b0 : (t169 == 0) = true := beq_iff_eq.mpr c35
                have c35b1 : (t169 != 0) = false := bne_eq_false_iff_eq.mpr c35
                clear c35
                by_cases c36 : t165 = t171
                · rw [if_pos c36] at H
                  have c36b0 : (t165 == t171) = true := beq_iff_eq.mpr c36
                  have c36b1 : (t165 != t171) = false := bne_eq_false_iff_eq.mpr c36
                  clear c36
                  replace H := Option.bind_eq_some_iff.mp H
                  obtain ⟨t178, A370, H⟩ := H
                  replace H : (some t178) = some r := H
                  have A37 := Aside0.mk A370
                  clear A370
                  obtain rfl := Option.some.inj H
                  have hnb38 := NB170_176.out
                  have hnc38 := NB176_170.out
                  have hcz39_0 : wc.cell? ⟨gb170, 0, none⟩ = some (.int .i64 t165) := (blk_cell BK170.out 0).trans rfl
                  have hcz39_1 : wc.cell? ⟨gb170, 1, none⟩ = some (.slice Ao7 t166.length co7) := (blk_cell BK170.out 1).trans rfl
                  have hfz39_0 := blk_frozen BK170.out 0
                  have hfz39_1 := blk_frozen BK170.out 1
                  have hcz40_0 : wc.cell? ⟨gb176, 0, none⟩ = some (.int .i64 t171) := (blk_cell BK176.out 0).trans rfl
                  have hcz40_1 : wc.cell? ⟨gb176, 1, none⟩ = some (.slice Ao15 t172.length co15) := (blk_cell BK176.out 1).trans rfl
                  have hfz40_0 := blk_frozen BK176.out 0
                  have hfz40_1 := blk_frozen BK176.out 1
                  go_wp2_with (first | (go_at_call 27; (with_reducible refine (teamsterref_Edges.calls kj9 _ _ t166 _ _ t172 t178 _ ?side1 ?side2 ?side3 ?side4 A37.out).mono ?_); (case side1 => repeat (first | exact (Kd.R_reads' HO_171001.out).2.2 | (with_reducible refine Kd.C_alloc ?_ _) | (with_reducible refine Kd.C_drewN ?_ _) | (with_reducible refine Kd.C_drew ?_))); (case side2 => exact (Kd.R_reads' HO_171001.out).2.1); (case side3 => repeat (first | exact (Kd.R_reads' HO_177001.out).2.2 | (with_reducible refine Kd.C_alloc ?_ _) | (with_reducible refine Kd.C_drewN ?_ _) | (with_reducible refine Kd.C_drew ?_))); (case side4 => exact (Kd.R_reads' HO_177001.out).2.1); rintro e w' ⟨rfl, ⟨nd, rfl⟩⟩))
                  go_ret
                  exact ⟨by first | rfl | (simp [errW_none, errW_some] <;> rfl) | (simp [*, errW_none, errW_some] <;> rfl), by repeat (first | (with_reducible first | exact HB.out | apply below_alloc | apply pw_below_drewN | apply below_drew1 | refine below_set ?_ GE170.out | refine below_set ?_ GE176.out) | exact HB.out)⟩
                · rw [if_neg c36] at H
                  have c36b0 : (t165 == t171) = false := beq_eq_false_iff_ne.mpr c36
                  have c36b1 : (t165 != t171) = true := bne_iff_ne.mpr c36
                  obtain rfl := Option.some.inj H
                  have hnb41 := NB170_176.out
                  have hnc41 := NB176_170.out
                  have hcz42_0 : wc.cell? ⟨gb170, 0, none⟩ = some (.int .i64 t165) := (blk_cell BK170.out 0).trans rfl
                  have hcz42_1 : wc.cell? ⟨gb170, 1, none⟩ = some (.slice Ao7 t166.length co7) := (blk_cell BK170.out 1).trans rfl
                  have hfz42_0 := blk_frozen BK170.out 0
                  have hfz42_1 := blk_frozen BK170.out 1
                  have hcz43_0 : wc.cell? ⟨gb176, 0, none⟩ = some (.int .i64 t171) := (blk_cell BK176.out 0).trans rfl
                  have hcz43_1 : wc.cell? ⟨gb176, 1, none⟩ = some (.slice Ao15 t172.length co15) := (blk_cell BK176.out 1).trans rfl
                  have hfz43_0 := blk_frozen BK176.out 0
                  have hfz43_1 := blk_frozen BK176.out 1
                  go_wp2
                  go_ret
                  exact ⟨by first | rfl | (simp [errW_none, errW_some] <;> rfl) | (simp [*, errW_none, errW_some] <;> rfl), by repeat (first | (with_reducible first | exact HB.out | apply below_alloc | apply pw_below_drewN | apply below_drew1 | refine below_set ?_ GE170.out | refine below_set ?_ GE176.out) | exact HB.out)⟩
              · rw [if_neg c35] at H
                have c35b0 : (t169 == 0) = false := beq_eq_false_iff_ne.mpr c35
                have c35b1 : (t169 != 0) = true := bne_iff_ne.mpr c35
                obtain rfl := Option.some.inj H
                go_wp2
                go_ret
                exact ⟨by first | rfl | (simp [errW_none, errW_some] <;> rfl) | (simp [*, errW_none, errW_some] <;> rfl), by repeat (first | (with_reducible first | exact HB.out | apply below_alloc | apply pw_below_drewN | apply below_drew1 | refine below_set ?_ GE170.out | refine below_set ?_ GE176.out) | exact HB.out)⟩
            · rw [if_neg c34] at H
              have c34b0 : (x5_2 == 0) = false := beq_eq_false_iff_ne.mpr c34
              have c34b1 : (x5_2 != 0) = true := bne_iff_ne.mpr c34
              by_cases c44 : t169 = x5_2
              · rw [if_pos c44] at H
                have c44b0 : (t169 == x5_2) = true := beq_iff_eq.mpr c44
                have c44b1 : (t169 != x5_2) = false := bne_eq_false_iff_eq.mpr c44
                clear c44
                by_cases c45 : t165 = 0
                · rw [if_pos c45] at H
                  have c45b0 : (t165 == 0) = true := beq_iff_eq.mpr c45
                  have c45b1 : (t165 != 0) = false := bne_eq_false_iff_eq.mpr c45
                  clear c45
                  obtain rfl := Option.some.inj H
                  have hnb46 := NB170_176.out
                  have hnc46 := NB176_170.out
                  have hcz47_0 : wc.cell? ⟨gb170, 0, none⟩ = some (.int .i64 t165) := (blk_cell BK170.out 0).trans rfl
                  have hcz47_1 : wc.cell? ⟨gb170, 1, none⟩ = some (.slice Ao7 t166.length co7) := (blk_cell BK170.out 1).trans rfl
                  have hfz47_0 := blk_frozen BK170.out 0
                  have hfz47_1 := blk_frozen BK170.out 1
                  go_wp2
                  go_ret
                  exact ⟨by first | rfl | (simp [errW_none, errW_some] <;> rfl) | (simp [*, errW_none, errW_some] <;> rfl), by repeat (first | (with_reducible first | exact HB.out | apply below_alloc | apply pw_below_drewN | apply below_drew1 | refine below_set ?_ GE170.out | refine below_set ?_ GE176.out) | exact HB.out)⟩
                · rw [if_neg c45] at H
                  have c45b0 : (t165 == 0) = false := beq_eq_false_iff_ne.mpr c45
                  have c45b1 : (t165 != 0) = true := bne_iff_ne.mpr c45
                  obtain rfl := Option.some.inj H
                  have hnb48 := NB170_176.out
                  have hnc48 := NB176_170.out
                  have hcz49_0 : wc.cell? ⟨gb170, 0, none⟩ = some (.int .i64 t165) := (blk_cell BK170.out 0).trans rfl
                  have hcz49_1 : wc.cell? ⟨gb170, 1, none⟩ = some (.slice Ao7 t166.length co7) := (blk_cell BK170.out 1).trans rfl
                  have hfz49_0 := blk_frozen BK170.out 0
                  have hfz49_1 := blk_frozen BK170.out 1
                  go_wp2
                  go_ret
                  exact ⟨by first | rfl | (simp [errW_none, errW_some] <;> rfl) | (simp [*, errW_none, errW_some] <;> rfl), by repeat (first | (with_reducible first | exact HB.out | apply below_alloc | apply pw_below_drewN | apply below_drew1 | refine below_set ?_ GE170.out | refine below_set ?_ GE176.out) | exact HB.out)⟩
              · rw [if_neg c44] at H
                have c44b0 : (t169 == x5_2) = false := beq_eq_false_iff_ne.mpr c44
                have c44b1 : (t169 != x5_2) = true := bne_iff_ne.mpr c44
                obtain rfl := Option.some.inj H
                go_wp2
                go_ret
                exact ⟨by first | rfl | (simp [errW_none, errW_some] <;> rfl) | (simp [*, errW_none, errW_some] <;> rfl), by repeat (first | (with_reducible first | exact HB.out | apply below_alloc | apply pw_below_drewN | apply below_drew1 | refine below_set ?_ GE170.out | refine below_set ?_ GE176.out) | exact HB.out)⟩

/-- THE ONE PURE STATEMENT of teamsterlaw_ScoreMakes: yours. -/
def teamsterlaw_ScoreMakes.Pure : Prop := ∀ (l0 : List Int), l0.length ≤ maxLen → l0.length * 8 ≤ 140737488351232 → (∀ x ∈ l0, (Lit.int .i64 x).wf = true) → ∃ k, teamsterlaw_ScoreMakes.f k l0 = some true
theorem teamsterlaw_ScoreMakes.walk (P : teamsterlaw_ScoreMakes.Pure) (a0 : Option Addr) (len0 cap0 : Nat) (z0 : List Int) (w : World) (w0 : (a0 = none ∧ len0 = 0 ∧ cap0 = 0 ∧ z0 = []) ∨ ∃ x, a0 = some x ∧ len0 ≤ cap0 ∧ cap0 ≤ maxLen ∧ z0.length = cap0 ∧ (∀ i, i < z0.length → w.cell? (x.add i) = some (.int .i64 (z0.getD i 0))) ∧ ∀ n ∈ z0, (Lit.int .i64 n).wf = true) (y0 : len0 * 8 ≤ 140737488351232) :
    Calls Try.prog 7 #[.slice a0 len0 cap0] w fun e w' => e = .returned (.bool true) ∧ Below w.heap.size w w' := by
  obtain ⟨l0, rfl, hr0, hm0, hw0, hc0⟩ := ReadsInt.ofRowC w0
  obtain ⟨k, h⟩ := P l0 hm0 y0 hw0
  refine (teamsterlaw_ScoreMakes.calls k _ _ l0 true w (Kd.C_of_reads (d := (0 : Int)) (h1 := fun _ => rfl) hr0) hc0 h).mono ?_
  rintro e w' ⟨rfl, hd⟩
  exact ⟨rfl, hd⟩

end Go.Proofs.Ytoblkmbmacimiaa.G
