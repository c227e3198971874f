/- The law MapsChecks: what is wrong with a map, by two roads. -/
import Derived.Test.YtoblkmbmacimiaaDoorMapCheck
import Derived.Test.YtoblkmbmacimiaaDoorRowMapsChecks
namespace Go.Proofs.YtoblkmbmacimiaaDoor
open Go Go.RowKit L Go.Proofs.YtoblkmbmacimiaaDoor.G Go.Proofs.YtoblkmbmacimiaaDoor.O

namespace L
theorem pure_maps : MapsChecks.Pure := by
  intro n l round _ _ hr
  obtain ⟨r, h1, h2⟩ := map_check_is n l round hr
  refine Ev.get (v := true) ?_
  unfold teamsterlaw_MapsChecks.f
  rw [h1]
  refine Ev.bind (.const _) (Ev.bind h2 (.of_eq fun _ => ?_))
  simp
end L

theorem mapsChecks : Rows.MapsChecksCardSaid := MapsChecks.card L.pure_maps

end Go.Proofs.YtoblkmbmacimiaaDoor
