/- Contracts of two functions of math/bits in this seat's program: TrailingZeros32 (its table lies in a variable), OnesCount32. -/
import Derived.Test.YtoblkmbmacimiaaDoorProg
import Derived.WalkKit
import Derived.Outline
import Derived.Deep.QuietTactic
import Derived.BigQuiet
import Derived.Below
import Derived.KernelRfl
import Derived.Laws.Bits64b
import Derived.Lib.TrailingZeros
import Derived.Lib.Tables
import Derived.Lib.BitFns
namespace Go.Proofs.YtoblkmbmacimiaaDoor.B
open Go.RowKit

/-- The table of math/bits lies in its variable. -/
def Tab (w : World) : Prop := ∀ j, j < 32 → w.cell? ⟨0, j, none⟩ = some (.int .u8 (Lib.deBruijn32tab.getD j 0))

theorem wrap_u32' (n : Int) : IntKind.u32.wrap n = n % 4294967296 := by simp [IntKind.wrap, IntKind.signed, IntKind.bits]

theorem and_u32 (a b : Nat) (ha : a < 4294967296) (hb : b < 4294967296) : bits .and .u32 (a : Int) (b : Int) = ((a &&& b : Nat) : Int) := by
  have hx : a &&& b < 2 ^ 32 := Nat.and_lt_two_pow _ (by omega)
  have h1 : (BitVec.ofInt 32 (a : Int)).toNat = a := by
    rw [BitVec.ofInt_natCast, BitVec.toNat_ofNat]; exact Nat.mod_eq_of_lt (by omega)
  have h2 : (BitVec.ofInt 32 (b : Int)).toNat = b := by
    rw [BitVec.ofInt_natCast, BitVec.toNat_ofNat]; exact Nat.mod_eq_of_lt (by omega)
  show IntKind.u32.wrap ((BitVec.ofInt 32 (a : Int) &&& BitVec.ofInt 32 (b : Int)).toNat : Int) = _
  rw [BitVec.toNat_and, h1, h2, wrap_u32']
  omega

theorem tz_core (x k idx : Nat) (w : World) (hx0 : ((x : Int) == 0) = false)
    (key : bits BinOp.and IntKind.u32 (x : Int) (-(x : Int) % 4294967296) * 125613361 % 4294967296 / 134217728 = (idx : Int))
    (hi : idx < 32) (hk : k < 32) (hcell : w.cell? ⟨0, idx, none⟩ = some (.int .u8 k)) :
    Calls Tryd.prog 70 #[.int .u32 x] w fun e w' => e = .returned (.int .i64 k) ∧ w' = w := by
  go_enter Tryd.func70, Tryd.ntmps70
  go_wp2_with (simp only [key])
  go_ret
  exact ⟨rfl, rfl⟩

theorem tz_zero (w : World) : Calls Tryd.prog 70 #[.int .u32 0] w fun e w' => e = .returned (.int .i64 32) ∧ w' = w := by
  go_enter Tryd.func70, Tryd.ntmps70
  go_wp2
  go_ret
  exact ⟨rfl, rfl⟩

theorem tz_key (x a : Nat) (hx : x < 4294967296) (hx0 : x ≠ 0) (hlow : x &&& (4294967296 - x) = a) :
    bits BinOp.and IntKind.u32 (x : Int) (-(x : Int) % 4294967296) * 125613361 % 4294967296 / 134217728 = ((a * 125613361 % 4294967296 / 134217728 : Nat) : Int) := by
  have e1 : -(x : Int) % 4294967296 = ((4294967296 - x : Nat) : Int) := by omega
  rw [e1, and_u32 x _ hx (by omega), hlow]
  omega

/-- math/bits.TrailingZeros32, every x. -/
theorem tz_calls (x : Nat) (hx : x < 4294967296) (w : World) (hT : Tab w) :
    Calls Tryd.prog 70 #[.int .u32 x] w fun e w' => e = .returned (.int .i64 (Lib.ctz 32 x)) ∧ w = w' := by
  by_cases hx0 : x = 0
  · subst hx0
    exact (tz_zero w).mono fun e w' h => ⟨h.1, h.2.symm⟩
  · obtain ⟨hlow, hk⟩ := Lib.lowest_bit 32 x hx0 hx
    obtain ⟨hi, htab⟩ := Lib.deBruijn32_at _ hk
    have hcell := hT _ hi
    rw [htab] at hcell
    exact (tz_core x _ _ w (by simp; omega) (tz_key x _ hx hx0 hlow) hi hk hcell).mono fun e w' h => ⟨h.1, h.2.symm⟩

@[local go_sem high] theorem fold_tab : (⟨((([0, 1, 1, 2, 1, 2, 2, 3, 1, 2, 2, 3, 2, 3, 3, 4, 1, 2, 2, 3, 2, 3, 3, 4, 2, 3, 3, 4, 3, 4, 4, 5, 1, 2, 2, 3, 2, 3, 3, 4, 2, 3, 3, 4, 3, 4, 4, 5, 2, 3, 3, 4, 3, 4, 4, 5, 3, 4, 4, 5, 4, 5, 5, 6] : List UInt8).append ([1, 2, 2, 3, 2, 3, 3, 4, 2, 3, 3, 4, 3, 4, 4, 5, 2, 3, 3, 4, 3, 4, 4, 5, 3, 4, 4, 5, 4, 5, 5, 6, 2, 3, 3, 4, 3, 4, 4, 5, 3, 4, 4, 5, 4, 5, 5, 6, 3, 4, 4, 5, 4, 5, 5, 6, 4, 5, 5, 6, 5, 6, 6, 7] : List UInt8)).append (([1, 2, 2, 3, 2, 3, 3, 4, 2, 3, 3, 4, 3, 4, 4, 5, 2, 3, 3, 4, 3, 4, 4, 5, 3, 4, 4, 5, 4, 5, 5, 6, 2, 3, 3, 4, 3, 4, 4, 5, 3, 4, 4, 5, 4, 5, 5, 6, 3, 4, 4, 5, 4, 5, 5, 6, 4, 5, 5, 6, 5, 6, 6, 7] : List UInt8).append ([2, 3, 3, 4, 3, 4, 4, 5, 3, 4, 4, 5, 4, 5, 5, 6, 3, 4, 4, 5, 4, 5, 5, 6, 4, 5, 5, 6, 5, 6, 6, 7, 3, 4, 4, 5, 4, 5, 5, 6, 4, 5, 5, 6, 5, 6, 6, 7, 4, 5, 5, 6, 5, 6, 6, 7, 5, 6, 6, 7, 6, 7, 7, 8] : List UInt8))).toArray⟩ : ByteArray) = Lib.pop8tab := by kernel_rfl

theorem and_255 (a : Nat) (ha : a < 4294967296) : bits .and .u32 (a : Int) 255 = (a : Int) % 256 := by
  rw [show (255 : Int) = ((255 : Nat) : Int) from rfl, and_u32 a 255 ha (by omega), show (255 : Nat) = 2 ^ 8 - 1 from rfl, Nat.and_two_pow_sub_one_eq_mod]
  omega

/-- How many bits of a word of 32 are set. -/
def pc (x : Nat) : Nat := Lib.onesCount (x / 16777216) + Lib.onesCount (x / 65536 % 256) + Lib.onesCount (x / 256 % 256) + Lib.onesCount (x % 256)

theorem pop8_nat (b : Nat) (h : b < 256) : Lib.pop8 (b : Int) = (Lib.onesCount b : Int) := Lib.pop8_eq ⟨b, h⟩

theorem oc_calls (x : Nat) (hx : x < 4294967296) (w : World) :
    Calls Tryd.prog 33 #[.int .u32 x] w fun e w' => e = .returned (.int .i64 (pc x)) ∧ ∃ n, w' = w.drewN n := by
  have g1 : (0 : Int) ≤ (x : Int) / 16777216 := by omega
  have g2 : (x : Int) / 16777216 ≤ 255 := by omega
  have b1 : bits BinOp.and IntKind.u32 ((x : Int) / 65536) 255 = (x : Int) / 65536 % 256 := and_255 (x / 65536) (by omega)
  have b2 : bits BinOp.and IntKind.u32 ((x : Int) / 256) 255 = (x : Int) / 256 % 256 := and_255 (x / 256) (by omega)
  have b3 : bits BinOp.and IntKind.u32 (x : Int) 255 = (x : Int) % 256 := and_255 x (by omega)
  go_enter Tryd.func33, Tryd.ntmps33
  go_wp2
  simp only [fold_tab]
  go_quiet (fail)
  go_wp2
  go_ret
  refine ⟨?_, ⟨_, rfl⟩⟩
  have e1 := pop8_nat (x / 16777216) (by omega)
  have e2 := pop8_nat (x / 65536 % 256) (by omega)
  have e3 := pop8_nat (x / 256 % 256) (by omega)
  have e4 := pop8_nat (x % 256) (by omega)
  have l1 := Lib.onesCount_le8 ⟨x / 16777216, by omega⟩
  have l2 := Lib.onesCount_le8 ⟨x / 65536 % 256, by omega⟩
  have l3 := Lib.onesCount_le8 ⟨x / 256 % 256, by omega⟩
  have l4 := Lib.onesCount_le8 ⟨x % 256, by omega⟩
  simp only at l1 l2 l3 l4
  have e : (Lib.pop8 ((x : Int) / 16777216) + Lib.pop8 ((x : Int) / 65536 % 256) + Lib.pop8 ((x : Int) / 256 % 256) + Lib.pop8 ((x : Int) % 256)) % 256 = (pc x : Int) := by
    rw [show (x : Int) / 16777216 = ((x / 16777216 : Nat) : Int) by omega, show (x : Int) / 65536 % 256 = ((x / 65536 % 256 : Nat) : Int) by omega,
      show (x : Int) / 256 % 256 = ((x / 256 % 256 : Nat) : Int) by omega, show (x : Int) % 256 = ((x % 256 : Nat) : Int) by omega, e1, e2, e3, e4]
    unfold pc
    omega
  simp [e]

theorem tab_below {w W : World} (h : Tab w) (hb : Below w.heap.size w W) : Tab W := fun j hj => (hb.cell (World.block_lt_of_cell? w _ (h j hj))).trans (h j hj)

end Go.Proofs.YtoblkmbmacimiaaDoor.B
