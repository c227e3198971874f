/- The law ScoreMay in plain numbers: the sums of Erdos and Gallai, and the steps of Havel and Hakimi, tell the same. -/
import Derived.Test.YtoblkmbmacimiaaMake
import Derived.Test.YtoblkmbmacimiaaGteamsterlawScoreMay
namespace Go.Proofs.Ytoblkmbmacimiaa.Pure
open Go.RowKit Go.Proofs.Ytoblkmbmacimiaa.G Go.Proofs.Ytoblkmbmacimiaa.L

theorem ScoreMay : teamsterlaw_ScoreMay.Pure := by
  intro l _ _ _
  refine Ev.get (v := true) ?_
  unfold teamsterlaw_ScoreMay.f
  by_cases hl : (l.length : Int) > 10
  · refine .of_eq fun k => ?_
    unfold score_May.f
    rw [if_pos hl, Option.bind_some, if_pos hl, if_pos rfl]
    rfl
  · obtain ⟨b, h1, h2⟩ := may_is l (by omega)
    obtain ⟨r, h3, h4⟩ := make_is l (by omega)
    refine Ev.bind h1 ?_
    simp only [if_neg hl]
    refine Ev.bind h3 (.of_eq fun k => ?_)
    have : b = r.2.2 := Bool.eq_iff_iff.2 (h2.trans h4.symm)
    simp [this]

end Go.Proofs.Ytoblkmbmacimiaa.Pure
