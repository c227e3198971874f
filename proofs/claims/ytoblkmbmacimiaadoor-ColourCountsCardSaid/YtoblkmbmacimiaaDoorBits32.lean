/- math/bits.OnesCount32 as a Lean function, in the form that the printed walks take. -/
import Derived.Test.YtoblkmbmacimiaaDoorGZero
import Derived.Test.YtoblkmbmacimiaaDoorBits
namespace Go.Proofs.YtoblkmbmacimiaaDoor.G
open Go.RowKit Go.Proofs.YtoblkmbmacimiaaDoorW.PrintWords

def bits_OnesCount32.f (a0 : Int) : Option Int := if 0 ≤ a0 ∧ a0 < 4294967296 then some (B.pc a0.toNat) else none
theorem bits_OnesCount32.calls (a0 : Int) (r : Int) (w : World) (h : bits_OnesCount32.f a0 = some r) :
    Calls Tryd.prog 33 #[.int .u32 a0] w fun e w' => e = .returned (.int .i64 r) ∧ Drawn0 w w' := by
  unfold bits_OnesCount32.f at h
  split at h
  case isFalse => cases h
  case isTrue hh =>
  obtain ⟨x, rfl⟩ := Int.eq_ofNat_of_zero_le hh.1
  cases h
  exact (B.oc_calls x (by omega) w).mono fun e w' h => ⟨h.1, ⟨h.2⟩⟩

end Go.Proofs.YtoblkmbmacimiaaDoor.G
