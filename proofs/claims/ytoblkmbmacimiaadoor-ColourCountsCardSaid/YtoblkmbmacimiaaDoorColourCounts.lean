/- The law ColourCounts: the colourings, by two roads. -/
import Derived.Test.YtoblkmbmacimiaaDoorCount
import Derived.Test.YtoblkmbmacimiaaDoorRowColourCounts
namespace Go.Proofs.YtoblkmbmacimiaaDoor
open Go Go.RowKit L Go.Proofs.YtoblkmbmacimiaaDoor.G Go.Proofs.YtoblkmbmacimiaaDoor.O

namespace L
theorem bc_log' : ∀ n, n ≤ 10 → bcK 10 (2 ^ n - 1) ≤ n := by decide +kernel

theorem pure_counts : ColourCounts.Pure := by
  intro n l k _ _ _
  by_cases hc : gcheck n l = 0
  · obtain ⟨m, rfl, g⟩ := good_of hc
    have hgc := gc_is (m : Int) l
    rw [hc] at hgc
    refine Ev.get (v := true) ?_
    unfold teamsterlaw_ColourCounts.f
    by_cases h0 : k < 0
    · have hf : colour_Count.f (m : Int) l k = some (0, 4) := by unfold colour_Count.f; rw [if_neg (fun h => h hc), if_pos (.inl h0)]
      rw [hf]
      refine Ev.bind (.const _) (Ev.bind hgc ?_)
      refine Ev.step (g := fun _ => some true) (fun k' => ?_) (.const _)
      simp [h0, teamsterlaw_ColourCounts.j0]
    · by_cases h1 : 12 < k
      · have hf : colour_Count.f (m : Int) l k = some (0, 4) := by unfold colour_Count.f; rw [if_neg (fun h => h hc), if_pos (.inr h1)]
        rw [hf]
        refine Ev.bind (.const _) (Ev.bind hgc ?_)
        refine Ev.step (g := fun _ => some true) (fun k' => ?_) (.const _)
        simp [h0, h1, teamsterlaw_ColourCounts.j0]
      · obtain ⟨kk, rfl⟩ := Int.eq_ofNat_of_zero_le (show 0 ≤ k by omega)
        have hf : colour_Count.f (m : Int) l kk = some (wrap64 (col (apartB (E l)) kk (2 ^ m - 1)), 0) := by
          unfold colour_Count.f; rw [if_neg (fun h => h hc), if_neg (by omega), Int.toNat_natCast, Int.toNat_natCast]
        rw [hf]
        refine Ev.bind (.const _) (Ev.bind hgc ?_)
        have hcount := count_is g (kk : Int)
        have h10 := g.n10
        have hlt : 2 ^ m - 1 < 2 ^ 10 := by have := Nat.pow_le_pow_right (show 0 < 2 by decide) h10; have := Nat.two_pow_pos m; omega
        rw [count_col (apartB (E l)) (by simp [apartB]) 10 kk (2 ^ m - 1) hlt m (bc_log' m h10)] at hcount
        refine Ev.step (g := fun k' => (teamsterref_Count.f k' (m : Int) l (kk : Int)).bind fun t => some (wrap64 (col (apartB (E l)) kk (2 ^ m - 1)) == t)) (fun k' => ?_) (Ev.bind hcount (.of_eq fun _ => by simp))
        simp [h0, h1, teamsterlaw_ColourCounts.j0]
  · refine Ev.get (v := true) ?_
    unfold teamsterlaw_ColourCounts.f
    have hf : colour_Count.f n l k = some (0, gcheck n l) := by unfold colour_Count.f; rw [if_pos hc]
    rw [hf]
    refine Ev.bind (.const _) (Ev.bind (gc_is n l) ?_)
    refine Ev.step (g := fun _ => some true) (fun k' => ?_) (.const _)
    simp [hc, teamsterlaw_ColourCounts.j0]
end L

theorem colourCounts : Rows.ColourCountsCardSaid := ColourCounts.card L.pure_counts

end Go.Proofs.YtoblkmbmacimiaaDoor
