/- Contracts of the shelf for slices.Clone and slices.Sort over ints, as this program's: in the shape that printed calls have. -/
import Derived.Shelf.Sort.Plain
import Derived.Shelf.Slices.Clone
import Derived.Shelf.Slices.In.SortNone
import Derived.Sort.OwnSortedInts
import Derived.Test.YtoblkmbmacimiaaGZero
namespace Go.Proofs.Ytoblkmbmacimiaa.G
open Go.Shelf Go.Sort Go.RowKit Go.Proofs.YtoblkmbmacimiaaW.PrintWords Go.Proofs.YtoblkmbmacimiaaW.PrintLast Go.Proofs.YtoblkmbmacimiaaW.PrintMore

def lays189_ren : Ren where
  f := fun
    | 189 => 56
    | 125 => 81
    | 257 => 80
    | 128 => 107
    | 129 => 108
    | 294 => 98
    | 295 => 99
    | 296 => 100
    | 297 => 101
    | 298 => 102
    | 299 => 103
    | 216 => 104
    | 300 => 105
    | 301 => 106
    | 328 => 122
    | 329 => 123
    | 330 => 124
    | 331 => 125
    | 332 => 126
    | 215 => 117
    | 343 => 132
    | n => n
  t := fun
    | 28 => 30
    | 3 => 3
    | 46 => 79
    | 0 => 0
    | 51 => 34
    | 53 => 154
    | 4 => 4
    | 183 => 162
    | 182 => 161
    | 131 => 166
    | 5 => 5
    | 9 => 9
    | 218 => 178
    | 222 => 182
    | 228 => 186
    | 229 => 187
    | n => n
  g := fun n => n
theorem lays189 : Lays.n189 Try.prog lays189_ren :=
{ mixed := by kernel_rfl, f125 := Eq.trans Try.func81 (congrArg some (by kernel_rfl)),
  f128 := Eq.trans Try.func107 (congrArg some (by kernel_rfl)),
  f129 := Eq.trans Try.func108 (congrArg some (by kernel_rfl)),
  f189 := Eq.trans Try.func56 (congrArg some (by kernel_rfl)),
  f215 := Eq.trans Try.func117 (congrArg some (by kernel_rfl)),
  f216 := Eq.trans Try.func104 (congrArg some (by kernel_rfl)),
  f257 := Eq.trans Try.func80 (congrArg some (by kernel_rfl)),
  f294 := Eq.trans Try.func98 (congrArg some (by kernel_rfl)),
  f295 := Eq.trans Try.func99 (congrArg some (by kernel_rfl)),
  f296 := Eq.trans Try.func100 (congrArg some (by kernel_rfl)),
  f297 := Eq.trans Try.func101 (congrArg some (by kernel_rfl)),
  f298 := Eq.trans Try.func102 (congrArg some (by kernel_rfl)),
  f299 := Eq.trans Try.func103 (congrArg some (by kernel_rfl)),
  f300 := Eq.trans Try.func105 (congrArg some (by kernel_rfl)),
  f301 := Eq.trans Try.func106 (congrArg some (by kernel_rfl)),
  f328 := Eq.trans Try.func122 (congrArg some (by kernel_rfl)),
  f329 := Eq.trans Try.func123 (congrArg some (by kernel_rfl)),
  f330 := Eq.trans Try.func124 (congrArg some (by kernel_rfl)),
  f331 := Eq.trans Try.func125 (congrArg some (by kernel_rfl)),
  f332 := Eq.trans Try.func126 (congrArg some (by kernel_rfl)),
  f343 := Eq.trans Try.func132 (congrArg some (by kernel_rfl)), t0 := Try.underlying0,
  a0 := Try.isAgg0, z0 := Try.sizeOf0, v0 := Try.zeroValue0, t3 := Try.underlying3, a3 := Try.isAgg3, z3 := Try.sizeOf3,
  v3 := Try.zeroValue3, t4 := Try.underlying4, a4 := Try.isAgg4, z4 := Try.sizeOf4, v4 := Try.zeroValue4,
  t5 := Try.underlying5, a5 := Try.isAgg5, z5 := Try.sizeOf5, v5 := Try.zeroValue5, t9 := Try.underlying9,
  a9 := Try.isAgg9, z9 := Try.sizeOf9, v9 := Try.zeroValue9, t28 := Try.underlying30, a28 := Try.isAgg30,
  z28 := Try.sizeOf30, v28 := Try.zeroValue30, t46 := Try.underlying79, a46 := Try.isAgg79, z46 := Try.sizeOf79,
  v46 := Try.zeroValue79, t51 := Try.underlying34, a51 := Try.isAgg34, z51 := Try.sizeOf34, v51 := Try.zeroValue34,
  t53 := Try.underlying154, a53 := Try.isAgg154, z53 := Try.sizeOf154, v53 := Try.zeroValue154,
  t131 := Try.underlying166, a131 := Try.isAgg166, z131 := Try.sizeOf166, v131 := Try.zeroValue166,
  t182 := Try.underlying161, a182 := Try.isAgg161, z182 := Try.sizeOf161, v182 := Try.zeroValue161,
  t183 := Try.underlying162, a183 := Try.isAgg162, z183 := Try.sizeOf162, v183 := Try.zeroValue162,
  t218 := Try.underlying178, a218 := Try.isAgg178, z218 := Try.sizeOf178, v218 := Try.zeroValue178,
  t222 := Try.underlying182, a222 := Try.isAgg182, z222 := Try.sizeOf182, v222 := Try.zeroValue182,
  t228 := Try.underlying186, a228 := Try.isAgg186, z228 := Try.sizeOf186, v228 := Try.zeroValue186,
  t229 := Try.underlying187, a229 := Try.isAgg187, z229 := Try.sizeOf187, v229 := Try.zeroValue187 }

def laysNm215_ren : Ren where
  f := fun
    | 15 => 55
    | n => n
  t := fun
    | 22 => 30
    | 3 => 3
    | 4 => 4
    | n => n
  g := fun n => n
theorem laysNm215 : Lays2.n15 Try.prog laysNm215_ren :=
{ mixed := by kernel_rfl, f15 := Eq.trans Try.func55 (congrArg some (by kernel_rfl)),
  t3 := Try.underlying3, a3 := Try.isAgg3, z3 := Try.sizeOf3, v3 := Try.zeroValue3, t4 := Try.underlying4,
  a4 := Try.isAgg4, z4 := Try.sizeOf4, v4 := Try.zeroValue4, t22 := Try.underlying30, a22 := Try.isAgg30,
  z22 := Try.sizeOf30, v22 := Try.zeroValue30, i3 := by kernel_rfl }

/-! ### slices.Clone -/
def slices_Clone_int_int.f (l0 : List Int) : Option (List Int) := if l0.length * 8 ≤ 140737488355328 then some l0 else none

theorem C_zero {A : Option Addr} {n : Nat} {w : World} {l : List Int} (h : (Kd.int .i64).C w A n l) (hA : A = none) : n = 0 := by
  rcases Nat.eq_zero_or_pos n with h0 | h0
  · exact h0
  · obtain ⟨ad, e, _⟩ := h.2.2 h0
    rw [hA] at e; cases e

set_option maxHeartbeats 4000000 in
theorem slices_Clone_int_int.calls (A0 : Option Addr) (c0 : Nat) (l0 : List Int) (r : List Int) (w : World) (hr0 : (Kd.int .i64).C w A0 l0.length l0) (hc0 : l0.length ≤ c0) (h : slices_Clone_int_int.f l0 = some r) :
    Calls Try.prog 55 #[.slice A0 l0.length c0] w fun e w' => ∃ v0_ : Value, e = .returned (v0_) ∧ Kd.R (Kd.int .i64) 3 w' w.heap.size (fun _ => True) v0_ r ∧ Below w.heap.size w w' := by
  unfold slices_Clone_int_int.f at h
  split at h
  case isFalse => cases h
  case isTrue hsz =>
  injection h with h
  subst h
  cases A0 with
  | none =>
    have h0 := C_zero hr0 rfl
    have e0 : l0 = [] := List.length_eq_zero_iff.1 h0
    subst e0
    refine (Any.slices_Clone_int_nil laysNm215 _ _ w).mono ?_
    rintro e w' ⟨rfl, rfl⟩
    exact ⟨_, rfl, Kd.R_nil _ _ _ _ _, Below.refl _ _⟩
  | some ad =>
    have L := laysNm215
    have t22 := Try.underlying30
    obtain ⟨i0, hi, hz0, hz1, hz2⟩ := info_parts L.i3
    have q22 : ∀ (w : World) (a : Option Addr) (n c n' c' : Nat), (binOp .eql 30 (.slice a n c) (.slice none n' c')).run Try.prog w = .ok (.bool a.isNone) w := fun w a n c n' c' => Lib.run_eql_slice_nil w _ _ a n c n' c' t22
    have hcells : ∀ j u, (l0.map (Value.int .i64))[j]? = some u → w.cell? (ad.add j) = some u := fun j u hj => by
      have hl : j < l0.length := by have := (List.getElem?_eq_some_iff.1 hj).1; simpa using this
      obtain ⟨ad', ea, hx⟩ := Kd.at_int hr0 (j : Int) (by omega) (by omega)
      cases ea
      rw [Int.toNat_natCast] at hx
      rw [hx, ← hj, List.getElem?_map, List.getElem?_eq_getElem hl]
      simp [YtoblkmbmacimiaaW.PrintWords.rd, hl]
    have Hc := Aside0.mk hcells
    clear hcells
    have mixed := L.mixed
    go_enter Try.func55, Try.ntmps55
    go_wp2_with (at_builtin; refine wpList_append_own _ rfl _ _ 30 rfl w.heap.size 3 i0 (.int .i64 0) 1 8 t22 hi hz0 hz1 hz2 rfl (by decide) _ _ _ rfl (World.ownsRow_made w #[] 0 (Nat.le_refl _) (Nat.zero_le _) rfl) ad l0.length c0 (l0.map (Value.int .i64)) rfl ?qc1 ?qc2 ?qc3 ?qc4 ?qc5 ?qc6 ?_)
    case qc1 => simp
    case qc2 =>
      intro j u hj
      refine Lib.cell?_alloc_some _ ?_
      exact Hc.out j u hj
    case qc3 => intro u hu; obtain ⟨x, _, rfl⟩ := List.mem_map.1 hu; rfl
    case qc4 => unfold maxLen; omega
    case qc5 => omega
    case qc6 => simp
    intro v' w1 hown hgrow hnil
    go_wp2
    go_ret
    refine ⟨v', rfl, ?_, ?_⟩
    · exact Kd.R_of_own (by simpa [encs] using hown) (fun _ _ => trivial)
    · exact ((Below.refl _ w).alloc (Nat.le_refl _) _).grown hgrow (by simp) (by intro k hk; simp [Value.ownBlock] at hk; omega)

/-! ### slices.Sort -/
def slices_Sort_int_int.f (l0 : List Int) : Option (List Int) := if l0.length < 4611686018427387904 then some (l0.mergeSort fun x y => decide (x ≤ y)) else none

theorem slices_Sort_int_int.calls (P0_ : Nat → Prop) (u9000_ : Value) (l0 : List Int) (r : List Int) (w0 w : World) (hB : Below w0.heap.size w0 w) (ho0 : Kd.R (Kd.int .i64) 3 w w0.heap.size P0_ u9000_ l0) (h : slices_Sort_int_int.f l0 = some r) :
    Calls Try.prog 56 #[u9000_] w fun e w' => e = .returned (.tuple #[]) ∧ Kd.R (Kd.int .i64) 3 w' w0.heap.size (fun k_ => (P0_ k_ ∨ w.heap.size ≤ k_)) u9000_ r ∧ Below w0.heap.size w0 w' ∧ Kept w w' (fun k_ => P0_ k_) := by
  unfold slices_Sort_int_int.f at h
  split at h
  case isFalse => cases h
  case isTrue hsz =>
  injection h with h
  subst h
  cases l0 with
  | nil =>
    obtain ⟨A, c, rfl⟩ := Kd.R_slice ho0
    refine (Any.slices_Sort_int_none lays189 A c w).mono ?_
    rintro e w' ⟨rfl, rfl⟩
    refine ⟨rfl, ?_, hB, Kept.refl _ _⟩
    simpa using Kd.R_mono ho0 (fun k hk => Or.inl hk)
  | cons x t =>
    obtain ⟨g, cap, rfl, hg1, hg2, cells, hcells⟩ := Kd.R_form ho0 (by simp)
    have hP : P0_ g := ho0.1 g (by simp [Value.ownBlock])
    have hown := Kd.own_of_R ho0
    generalize hl : x :: t = l0 at *
    have hpos : 0 < l0.length := by rw [← hl]; simp
    rcases hown.2 with ⟨h0, _⟩ | ⟨g', cap', cur, hv, hbase, hcur, hn, hcap, hsize, htake⟩
    · cases h0
    · cases hv
      have hH : Holds (Value.int .i64) w g 0 l0.toArray := holds_of_blockI hcur (by simpa [encs] using htake)
      refine (Any.slices_Sort_int lays189 g 0 cap l0 w hH hg2 hsz).mono ?_
      rintro e w' ⟨rfl, n, os, rfl⟩
      have hlen : (l0.mergeSort fun x y => decide (x ≤ y)).length = l0.length := List.length_mergeSort _
      have hgr := grownBy_sortedI (w := w) (g := g) (n := n) (os := os) (l0.mergeSort fun x y => decide (x ≤ y)).toArray
      refine ⟨rfl, ?_, hB.grown hgr hB.size (fun k hk => by cases hk; exact hg1), hgr.size, fun i hi hne => hgr.block i hi (fun e => hne (by cases e; exact hP))⟩
      have := ownsRow_sortedI (w := w) (base := w0.heap.size) (n := n) (os := os) (e := 3) (cap := cap) hlen hbase hcur hn hcap hsize
      rw [← hlen] at this ⊢
      exact Kd.R_of_own (by simpa [encs] using this) (fun k hk => by simp [Value.ownBlock] at hk; subst hk; exact Or.inl hP)

end Go.Proofs.Ytoblkmbmacimiaa.G
