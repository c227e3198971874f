/- Contracts of the shelf for slices.Sort over ints, as this program's: in the shape that printed calls have. -/
import Derived.Shelf.Sort.Plain
import Derived.Shelf.Slices.In.SortNone
import Derived.Sort.OwnSortedInts
import Derived.Test.YtoblkmbmacimiaaDoorGZero
namespace Go.Proofs.YtoblkmbmacimiaaDoor.G
open Go.Shelf Go.Sort Go.RowKit Go.Proofs.YtoblkmbmacimiaaDoorW.PrintWords Go.Proofs.YtoblkmbmacimiaaDoorW.PrintLast Go.Proofs.YtoblkmbmacimiaaDoorW.PrintMore

def lays189_ren : Ren :=
{
  f := fun x =>
    match x with
    | 189 => 73
    | 125 => 79
    | 257 => 78
    | 128 => 92
    | 129 => 93
    | 294 => 83
    | 295 => 84
    | 296 => 85
    | 297 => 86
    | 298 => 87
    | 299 => 88
    | 216 => 89
    | 300 => 90
    | 301 => 91
    | 328 => 94
    | 329 => 95
    | 330 => 96
    | 331 => 97
    | 332 => 98
    | 215 => 99
    | 343 => 100
    | n => n,
  t := fun x =>
    match x with
    | 28 => 32
    | 3 => 3
    | 46 => 67
    | 0 => 0
    | 51 => 53
    | 53 => 120
    | 4 => 4
    | 183 => 125
    | 182 => 124
    | 131 => 102
    | 5 => 5
    | 9 => 9
    | 218 => 132
    | 222 => 136
    | 228 => 138
    | 229 => 139
    | n => n,
  g := fun x =>
    have n := x;
    n }
theorem lays189 : Lays.n189 Tryd.prog lays189_ren :=
{ mixed := by kernel_rfl, f125 := Eq.trans Tryd.func79 (congrArg some (by kernel_rfl)),
  f128 := Eq.trans Tryd.func92 (congrArg some (by kernel_rfl)),
  f129 := Eq.trans Tryd.func93 (congrArg some (by kernel_rfl)),
  f189 := Eq.trans Tryd.func73 (congrArg some (by kernel_rfl)),
  f215 := Eq.trans Tryd.func99 (congrArg some (by kernel_rfl)),
  f216 := Eq.trans Tryd.func89 (congrArg some (by kernel_rfl)),
  f257 := Eq.trans Tryd.func78 (congrArg some (by kernel_rfl)),
  f294 := Eq.trans Tryd.func83 (congrArg some (by kernel_rfl)),
  f295 := Eq.trans Tryd.func84 (congrArg some (by kernel_rfl)),
  f296 := Eq.trans Tryd.func85 (congrArg some (by kernel_rfl)),
  f297 := Eq.trans Tryd.func86 (congrArg some (by kernel_rfl)),
  f298 := Eq.trans Tryd.func87 (congrArg some (by kernel_rfl)),
  f299 := Eq.trans Tryd.func88 (congrArg some (by kernel_rfl)),
  f300 := Eq.trans Tryd.func90 (congrArg some (by kernel_rfl)),
  f301 := Eq.trans Tryd.func91 (congrArg some (by kernel_rfl)),
  f328 := Eq.trans Tryd.func94 (congrArg some (by kernel_rfl)),
  f329 := Eq.trans Tryd.func95 (congrArg some (by kernel_rfl)),
  f330 := Eq.trans Tryd.func96 (congrArg some (by kernel_rfl)),
  f331 := Eq.trans Tryd.func97 (congrArg some (by kernel_rfl)),
  f332 := Eq.trans Tryd.func98 (congrArg some (by kernel_rfl)),
  f343 := Eq.trans Tryd.func100 (congrArg some (by kernel_rfl)), t0 := Tryd.underlying0,
  a0 := Tryd.isAgg0, z0 := Tryd.sizeOf0, v0 := Tryd.zeroValue0, t3 := Tryd.underlying3, a3 := Tryd.isAgg3,
  z3 := Tryd.sizeOf3, v3 := Tryd.zeroValue3, t4 := Tryd.underlying4, a4 := Tryd.isAgg4, z4 := Tryd.sizeOf4,
  v4 := Tryd.zeroValue4, t5 := Tryd.underlying5, a5 := Tryd.isAgg5, z5 := Tryd.sizeOf5, v5 := Tryd.zeroValue5,
  t9 := Tryd.underlying9, a9 := Tryd.isAgg9, z9 := Tryd.sizeOf9, v9 := Tryd.zeroValue9, t28 := Tryd.underlying32,
  a28 := Tryd.isAgg32, z28 := Tryd.sizeOf32, v28 := Tryd.zeroValue32, t46 := Tryd.underlying67, a46 := Tryd.isAgg67,
  z46 := Tryd.sizeOf67, v46 := Tryd.zeroValue67, t51 := Tryd.underlying53, a51 := Tryd.isAgg53, z51 := Tryd.sizeOf53,
  v51 := Tryd.zeroValue53, t53 := Tryd.underlying120, a53 := Tryd.isAgg120, z53 := Tryd.sizeOf120,
  v53 := Tryd.zeroValue120, t131 := Tryd.underlying102, a131 := Tryd.isAgg102, z131 := Tryd.sizeOf102,
  v131 := Tryd.zeroValue102, t182 := Tryd.underlying124, a182 := Tryd.isAgg124, z182 := Tryd.sizeOf124,
  v182 := Tryd.zeroValue124, t183 := Tryd.underlying125, a183 := Tryd.isAgg125, z183 := Tryd.sizeOf125,
  v183 := Tryd.zeroValue125, t218 := Tryd.underlying132, a218 := Tryd.isAgg132, z218 := Tryd.sizeOf132,
  v218 := Tryd.zeroValue132, t222 := Tryd.underlying136, a222 := Tryd.isAgg136, z222 := Tryd.sizeOf136,
  v222 := Tryd.zeroValue136, t228 := Tryd.underlying138, a228 := Tryd.isAgg138, z228 := Tryd.sizeOf138,
  v228 := Tryd.zeroValue138, t229 := Tryd.underlying139, a229 := Tryd.isAgg139, z229 := Tryd.sizeOf139,
  v229 := Tryd.zeroValue139 }

/-! ### slices.Sort -/
def slices_Sort_int_int.f (l0 : List Int) : Option (List Int) := if l0.length < 4611686018427387904 then some (l0.mergeSort fun x y => decide (x ≤ y)) else none

theorem slices_Sort_int_int.calls (P0_ : Nat → Prop) (u9000_ : Value) (l0 : List Int) (r : List Int) (w0 w : World) (hB : Below w0.heap.size w0 w) (ho0 : Kd.R (Kd.int .i64) 3 w w0.heap.size P0_ u9000_ l0) (h : slices_Sort_int_int.f l0 = some r) :
    Calls Tryd.prog 73 #[u9000_] w fun e w' => e = .returned (.tuple #[]) ∧ Kd.R (Kd.int .i64) 3 w' w0.heap.size (fun k_ => (P0_ k_ ∨ w.heap.size ≤ k_)) u9000_ r ∧ Below w0.heap.size w0 w' ∧ Kept w w' (fun k_ => P0_ k_) := by
  unfold slices_Sort_int_int.f at h
  split at h
  case isFalse => cases h
  case isTrue hsz =>
  injection h with h
  subst h
  cases l0 with
  | nil =>
    obtain ⟨A, c, rfl⟩ := Kd.R_slice ho0
    refine (Any.slices_Sort_int_none lays189 A c w).mono ?_
    rintro e w' ⟨rfl, rfl⟩
    refine ⟨rfl, ?_, hB, Kept.refl _ _⟩
    simpa using Kd.R_mono ho0 (fun k hk => Or.inl hk)
  | cons x t =>
    obtain ⟨g, cap, rfl, hg1, hg2, cells, hcells⟩ := Kd.R_form ho0 (by simp)
    have hP : P0_ g := ho0.1 g (by simp [Value.ownBlock])
    have hown := Kd.own_of_R ho0
    generalize hl : x :: t = l0 at *
    have hpos : 0 < l0.length := by rw [← hl]; simp
    rcases hown.2 with ⟨h0, _⟩ | ⟨g', cap', cur, hv, hbase, hcur, hn, hcap, hsize, htake⟩
    · cases h0
    · cases hv
      have hH : Holds (Value.int .i64) w g 0 l0.toArray := holds_of_blockI hcur (by simpa [encs] using htake)
      refine (Any.slices_Sort_int lays189 g 0 cap l0 w hH hg2 hsz).mono ?_
      rintro e w' ⟨rfl, n, os, rfl⟩
      have hlen : (l0.mergeSort fun x y => decide (x ≤ y)).length = l0.length := List.length_mergeSort _
      have hgr := grownBy_sortedI (w := w) (g := g) (n := n) (os := os) (l0.mergeSort fun x y => decide (x ≤ y)).toArray
      refine ⟨rfl, ?_, hB.grown hgr hB.size (fun k hk => by cases hk; exact hg1), hgr.size, fun i hi hne => hgr.block i hi (fun e => hne (by cases e; exact hP))⟩
      have := ownsRow_sortedI (w := w) (base := w0.heap.size) (n := n) (os := os) (e := 3) (cap := cap) hlen hbase hcur hn hcap hsize
      rw [← hlen] at this ⊢
      exact Kd.R_of_own (by simpa [encs] using this) (fun k hk => by simp [Value.ownBlock] at hk; subst hk; exact Or.inl hP)



end Go.Proofs.YtoblkmbmacimiaaDoor.G
