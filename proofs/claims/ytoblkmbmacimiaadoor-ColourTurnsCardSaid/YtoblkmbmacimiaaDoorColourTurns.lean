/- The law ColourTurns: the ways in which the edges may be turned, by two roads. -/
import Derived.Test.YtoblkmbmacimiaaDoorCount
import Derived.Test.YtoblkmbmacimiaaDoorRowColourTurns
namespace Go.Proofs.YtoblkmbmacimiaaDoor
open Go Go.RowKit L Go.Proofs.YtoblkmbmacimiaaDoor.G Go.Proofs.YtoblkmbmacimiaaDoor.O

namespace L
theorem bc_log : ∀ w, w < 1024 → ∀ n, n ≤ 10 → w < 2 ^ n → bcK 10 w ≤ n := by decide +kernel
theorem err_is {n : Int} {l : List S57} (h : gcheck n l ≠ 0) : Ev (fun k => colour_Turned.f k n l) (0, gcheck n l) := by
  refine .of_eq fun k => ?_
  unfold colour_Turned.f graph_Check.f
  rw [Option.bind_some, if_neg h]

theorem pure_turns : ColourTurns.Pure := by
  intro n l _ _
  by_cases hc : gcheck n l = 0
  · obtain ⟨m, rfl, g⟩ := good_of hc
    have h10 := g.n10
    have hp : 2 ^ m ≤ 2 ^ 10 := Nat.pow_le_pow_right (by decide) h10
    have h0 := Nat.two_pow_pos m
    have hn := turns_nonneg (E l) [] (2 ^ m - 1)
    have hle := turns_le (E l) [] (2 ^ m - 1)
    have hE : (E l).length ≤ 45 := by unfold E; rw [List.length_map]; exact g.len
    have hpow : (2 : Int) ^ (E l).length ≤ 2 ^ 45 := by
      have : (2 : Nat) ^ (E l).length ≤ 2 ^ 45 := Nat.pow_le_pow_right (by decide) hE
      exact_mod_cast this
    have hF := F_is (apartB (E l)) 10 (turns (E l) []) (turns_zero _) (fun w h1 h2 => turns_step 10 (E l) (apartB (E l)) (apartB_iff _) w h1 h2) (2 ^ m - 1) (by omega) m (bc_log _ (by omega) _ h10 (by omega))
    have hcount := count_is g (-1)
    have e : (sumR (m + 1) fun i => fall (-1) i * A (apartB (E l)) i (2 ^ m - 1)) = sgn 10 (2 ^ m - 1) * turns (E l) [] (2 ^ m - 1) := by
      rw [← hF]; unfold F
      exact sumR_congr fun i _ => by rw [fall_minus]
    rw [e] at hcount
    have ht := turned_is g hc
    have hgc := gc_is (m : Int) l
    rw [hc] at hgc
    generalize turns (E l) [] (2 ^ m - 1) = T at *
    have hT : wrap64 T = T := w64 hn (by omega)
    have hsg : sgn 10 (2 ^ m - 1) = 1 ∨ sgn 10 (2 ^ m - 1) = -1 := by unfold sgn; split <;> simp
    refine Ev.get (v := true) ?_
    unfold teamsterlaw_ColourTurns.f
    refine Ev.bind ht (Ev.bind hgc ?_)
    simp only [if_true]
    refine Ev.bind hcount ?_
    rw [hT]
    refine .of_eq fun k => ?_
    rcases hsg with h | h
    · rw [h, Int.one_mul, hT, if_neg (by omega)]; simp
    · have hw : wrap64 (-1 * T) = -T := by unfold wrap64; omega
      rw [h, hw]
      by_cases hz : -T < 0
      · rw [if_pos hz, Int.neg_neg, hT]; simp
      · rw [if_neg hz]
        have : T = 0 := by omega
        subst this; simp
  · refine Ev.get (v := true) ?_
    unfold teamsterlaw_ColourTurns.f
    refine Ev.bind (err_is hc) (Ev.bind (gc_is n l) ?_)
    refine .of_eq fun k => ?_
    rw [if_neg hc]; simp
end L

theorem colourTurns : Rows.ColourTurnsCardSaid := ColourTurns.card L.pure_turns

end Go.Proofs.YtoblkmbmacimiaaDoor
