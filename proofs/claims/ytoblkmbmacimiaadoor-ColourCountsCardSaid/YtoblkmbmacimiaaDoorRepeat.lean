/- The walk of slices.Repeat over ints, at a row of one element. -/
import Derived.Test.YtoblkmbmacimiaaDoorGZero
import Derived.Test.YtoblkmbmacimiaaDoorGbitsMul
import Derived.Outline
import Derived.Lib.Hide
import Derived.Laws.CopyOwn
import Derived.Laws.MakeOwn
import Derived.Laws.OwnMore
import Derived.Deep.RegionLaw
namespace Go.Proofs.YtoblkmbmacimiaaDoor.G
open Go.RowKit Go.Proofs.YtoblkmbmacimiaaDoorW.PrintWords Go.Proofs.YtoblkmbmacimiaaDoorW.PrintLast Go.Proofs.YtoblkmbmacimiaaDoorW.PrintMore

theorem mul_small : ∀ n : Nat, n ≤ 16 → bits_Mul.f 1 (n : Int) = some (0, (n : Int)) := by decide +kernel

/-- A row filled up to a place. -/
def fillR (z : Value) (n m : Nat) : List Value := List.replicate m z ++ List.replicate (n - m) (.int .i64 0)
theorem fillR_len (z : Value) (n m : Nat) (h : m ≤ n) : (fillR z n m).length = n := by simp [fillR]; omega
theorem fillR_splice (z : Value) (n m d : Nat) (h : m + d ≤ n) : splice (fillR z n m) m (List.replicate d z) = fillR z n (m + d) := by
  unfold splice fillR
  rw [List.take_append_of_le_length (by simp), List.take_of_length_le (by simp), List.length_replicate, List.drop_append, List.length_replicate]
  rw [List.drop_eq_nil_of_le (by simp), List.nil_append, show m + d - m = d by omega, List.drop_replicate, ← List.append_assoc, List.replicate_append_replicate, show n - m - d = n - (m + d) by omega]
theorem fillR_get (z : Value) (n m j : Nat) (h : j < m) : (fillR z n m)[j]? = some z := by
  unfold fillR
  rw [List.getElem?_append_left (by simpa using h), List.getElem?_replicate]; simp [h]

theorem make_ints (n : Nat) (hn : n ≤ 16) (W : World) : (Instr.makeSlice 32 (.int .i64 n) (.int .i64 n)).run Tryd.prog W = .ok (.slice (some ⟨W.heap.size, 0, none⟩) n n) (W.alloc (.cells (fillR (.int .i64 0) n 0).toArray 3 (0, 0))) := by
  obtain ⟨i0, hi, hz⟩ := Option.map_eq_some_iff.1 info3
  simp only [Prod.mk.injEq] at hz
  obtain ⟨hz0, hz1, hz2⟩ := hz
  have := run_make (P := Tryd.prog) W 32 3 i0 (.int .i64 0) Tryd.underlying32 hi hz0 .i64 .i64 (n : Int) (n : Int) (by omega) (by omega) (by rw [hz2]; omega) (by omega)
  rw [this, Int.toNat_natCast, hz1, Nat.mul_one]
  have e : madeCells (Value.int .i64 0).cells n = (fillR (.int .i64 0) n 0).toArray := by
    apply Array.ext'
    rw [show (Value.int .i64 0).cells = #[.int .i64 0] from rfl, toList_madeCells_one]
    simp [fillR]
  rw [e]

set_option maxHeartbeats 4000000 in
set_option maxRecDepth 100000 in
theorem repeat_one.calls (A : Option Addr) (c : Nat) (z : Int) (n : Nat) (hn : n ≤ 16) (w : World) (hr : (Kd.int .i64).C w A 1 [z]) :
    Calls Tryd.prog 72 #[.slice A 1 c, .int .i64 n] w fun e w' => ∃ v, e = .returned v ∧ (Kd.int .i64).R 3 w' w.heap.size (fun _ => True) v (List.replicate n z) ∧ Below w.heap.size w w' := by
  have hm := mul_small n hn
  have h0 : (0 : Int) ≤ (n : Int) := by omega
  have h1 : (n : Int) ≤ 16 := by omega
  have hmk := make_ints n hn
  obtain ⟨ad, rfl, hx⟩ := Kd.at_int hr 0 (by omega) (by omega)
  rw [show rd [z] 0 = z from rfl, show (0 : Int).toNat = 0 from rfl] at hx
  obtain ⟨Z, hZ⟩ : ∃ Z, Z = fillR (.int .i64 0) n 0 := ⟨_, rfl⟩
  rw [← hZ] at hmk
  have hZl : Z.length = n := by rw [hZ, fillR_len _ _ _ (Nat.zero_le _)]
  have HZ := Lib.hid hZ
  have HZl := Lib.hid hZl
  clear hZ hZl
  go_enter Tryd.func72, Tryd.ntmps72
  have hpos : ∀ nd j v, (List.replicate (min 1 n) (Value.int .i64 z))[j]? = some v → ((w.drewN nd).alloc (.cells Z.toArray 3)).cell? (ad.add j) = some v := by
    intro nd j v hj
    rw [List.getElem?_replicate] at hj
    split at hj
    · cases hj
      obtain rfl : j = 0 := by omega
      exact ((below_alloc (pw_below_drewN (Below.refl w.heap.size w) nd) _).cell (World.block_lt_of_cell? w _ hx)).trans hx
    · cases hj
  have hp1 : ∀ nd, ((w.drewN nd).alloc (.cells Z.toArray 3)).heap[w.heap.size]? = some (.cells Z.toArray 3 (0, 0)) := fun nd => blk_new (w.drewN nd) _
  have hp2 : (List.replicate (min 1 n) (Value.int .i64 z)).length = Nat.min 1 n := List.length_replicate
  have hp4 : 0 + (List.replicate (min 1 n) (Value.int .i64 z)).length ≤ Z.length := by rw [HZl.out, List.length_replicate]; omega
  have hp5 : ∀ v ∈ List.replicate (min 1 n) (Value.int .i64 z), v.oneCell' = true := by intro v hv; rw [(List.mem_replicate.1 hv).2]; rfl
  have hp6 : ∀ nd, Below w.heap.size w ((w.drewN nd).alloc (.cells Z.toArray 3)) := fun nd => below_alloc (pw_below_drewN (Below.refl _ _) nd) _
  have Hp1 := Lib.hid hp1
  have Hp2 := Lib.hid hp2
  have Hp4 := Lib.hid hp4
  have Hp5 := Lib.hid hp5
  have Hp6 := Lib.hid hp6
  clear hp1 hp2 hp4 hp5 hp6
  have Hpos := Lib.hid hpos
  clear hpos
  have hsz3 : (Tryd.prog.info? 3).map (·.size) = some 1 := by kernel_rfl
  go_wp2_with (first | ((go_at_call 77); refine (bits_Mul.calls _ _ _ _ _ hm).mono ?_; rintro e w' ⟨rfl, nd, rfl⟩) | ((with_reducible refine gate_dst (N := 33) rfl ?_); (refine wpList_copy_splice rfl (.tmp 31) (.tmp 32) 32 32 rfl 3 Tryd.underlying32 hsz3 (some ⟨w.heap.size, 0, none⟩) (some ad) n n 1 c rfl rfl w.heap.size 0 Z 3 (Hp1.out nd) (List.replicate (min 1 n) (.int .i64 z)) Hp2.out (fun _ => ⟨rfl, ad, rfl, Hpos.out nd⟩) Hp4.out Hp5.out w.heap.size w (Hp6.out nd) (Nat.le_refl _) ?_); intro w2 HG2 hB2))
  have HB := Lib.hid hB2
  clear hB2
  have H1 : Hid (w2.heap[w.heap.size]? = some (.cells (fillR (.int .i64 z) n (min 1 n)).toArray 3 (0, 0))) := by
    have h := HG2.out
    rw [HZ.out] at h
    rw [show fillR (.int .i64 0) n 0 = fillR (.int .i64 z) n 0 from rfl, fillR_splice _ _ _ _ (by omega), Nat.zero_add] at h
    exact Lib.hid h
  clear HG2 HZ HZl hmk hm hx hr Hpos Hp1 Hp2 Hp4 Hp5 Hp6
  go_loopw [8] (fun v wr => ∃ m : Nat, v = .int .i64 m ∧ min 1 n ≤ m ∧ m ≤ n ∧ Hid (wr.heap[w.heap.size]? = some (.cells (fillR (.int .i64 z) n m).toArray 3 (0, 0))) ∧ Hid (Below w.heap.size w wr)) (fun v _ => n - (intOf v).toNat)
  case atStart => exact ⟨min 1 n, by simp, Nat.le_refl _, Nat.min_le_right _ _, H1, HB⟩
  case round =>
    obtain ⟨m, rfl, hm1, hm2, hg, hb⟩ := hrel
    by_cases hlt : m < n
    · have hne : ¬ n = m := by omega
      have hle : m ≤ n := hm2
      have hq1 : (List.replicate (min m (n - m)) (Value.int .i64 z)).length = Nat.min m (n - m) := List.length_replicate
      have hq2 : ∀ j v, (List.replicate (min m (n - m)) (Value.int .i64 z))[j]? = some v → wr.drew.cell? ((⟨w.heap.size, 0, none⟩ : Addr).add j) = some v := by
        intro j v hj
        rw [List.getElem?_replicate] at hj
        split at hj
        · rename_i hjl
          cases hj
          have e := (blk_cell (w := wr) hg.out j)
          rw [show (⟨w.heap.size, 0, none⟩ : Addr).add j = ⟨w.heap.size, j, none⟩ by simp [Addr.add]; exact fun h => h.symm]
          refine e.trans ?_
          rw [List.getElem?_toArray, fillR_get _ _ _ _ (by omega)]
        · cases hj
      have hq3 : m + (List.replicate (min m (n - m)) (Value.int .i64 z)).length ≤ (fillR (.int .i64 z) n m).length := by rw [fillR_len _ _ _ hm2, List.length_replicate]; omega
      have hq4 : ∀ v ∈ List.replicate (min m (n - m)) (Value.int .i64 z), v.oneCell' = true := by intro v hv; rw [(List.mem_replicate.1 hv).2]; rfl
      have hq5 : Below w.heap.size w wr.drew := hb.out.drew
      have hq6 : wr.drew.heap[w.heap.size]? = some (.cells (fillR (.int .i64 z) n m).toArray 3 (0, 0)) := hg.out
      have Hq1 := Lib.hid hq1
      have Hq2 := Lib.hid hq2
      have Hq3 := Lib.hid hq3
      have Hq4 := Lib.hid hq4
      have Hq5 := Lib.hid hq5
      have Hq6 := Lib.hid hq6
      clear hq1 hq2 hq3 hq4 hq5 hq6
      go_wp2
      go_region_law (refine step_copy_splice rfl (.tmp 41) (.tmp 44) 32 32 rfl 3 Tryd.underlying32 hsz3 (some ⟨w.heap.size, m, none⟩) (some ⟨w.heap.size, 0, none⟩) (n - m) (n - m) m n (by simp [Act.eval, Act.put]) (by simp [Act.eval, Act.put]) w.heap.size m (fillR (.int .i64 z) n m) 3 Hq6.out (List.replicate (min m (n - m)) (.int .i64 z)) Hq1.out (fun _ => ⟨rfl, ⟨w.heap.size, 0, none⟩, rfl, Hq2.out⟩) Hq3.out Hq4.out w.heap.size w Hq5.out (Nat.le_refl _) ?_; intro w4 hg4 hb4)
      all_goals
        have hf : Hid (w4.heap[w.heap.size]? = some (.cells (fillR (.int .i64 z) n (m + min m (n - m))).toArray 3 (0, 0))) := by
          have h := hg4.out
          rw [fillR_splice _ _ _ _ (by omega)] at h
          exact Lib.hid h
        have Hb4 := Lib.hid hb4
        clear hb4 hg4
        have hwr : IntKind.i64.wrap (((m : Int) + ((min m (n - m) : Nat) : Int))) = ((m + min m (n - m) : Nat) : Int) := by
          rw [IntKind.wrap_i64]; omega
        go_simp
        go_roundw
        case rel =>
          have e8 : Value.int .i64 ((m : Int) + ((min m (n - m) : Nat) : Int)) = .int .i64 ((m + min m (n - m) : Nat) : Int) := by go_num
          (repeat apply Exists.intro)
          exact ⟨⟨m + min m (n - m), e8, by omega, by omega, hf, Hb4⟩, rfl⟩
        case measure => simp [intOf]; omega
    · obtain rfl : m = n := by omega
      go_wp2
      go_ret
      refine ⟨_, rfl, ?_, hb.out⟩
      have hg1 := hg.out
      have ho : wr.ownsRow w.heap.size 3 1 (.slice (some ⟨w.heap.size, 0, none⟩) m m) (List.replicate m z).length (encs (Value.int .i64) (List.replicate m z)) := by
        rw [List.length_replicate]
        refine ⟨by rw [encs_length, List.length_replicate, Nat.mul_one], .inr ⟨_, _, _, rfl, Nat.le_refl _, hg1, Nat.le_refl _, by unfold maxLen; omega, by simp [fillR], ?_⟩⟩
        simp [fillR, encs]
      exact Kd.R_of_own ho (fun _ _ => trivial)

end Go.Proofs.YtoblkmbmacimiaaDoor.G
