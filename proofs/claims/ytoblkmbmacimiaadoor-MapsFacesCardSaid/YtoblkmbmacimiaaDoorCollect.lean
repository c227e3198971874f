/- The walks of slices.AppendSeq, slices.Collect, slices.Sorted and slices.Values over ints: a row's elements, or the nodes of a word. -/
import Derived.Test.YtoblkmbmacimiaaDoorValues
import Derived.Test.YtoblkmbmacimiaaDoorPlain
import Derived.Test.YtoblkmbmacimiaaDoorSlices
import Derived.Test.YtoblkmbmacimiaaDoorApart
import Derived.Outline
namespace Go.Proofs.YtoblkmbmacimiaaDoor.G
open Go.RowKit Go.Shelf Go.Proofs.YtoblkmbmacimiaaDoorW.PrintWords Go.Proofs.YtoblkmbmacimiaaDoorW.PrintLast Go.Proofs.YtoblkmbmacimiaaDoorW.PrintMore
open Go.Proofs.YtoblkmbmacimiaaDoor.B
attribute [local go_sem] Oper.semAt_some

/-- What has been taken in by now. -/
def AppI (w : World) (Bw : Nat) (ys : List Int) (W : World) : Prop :=
  ∃ v : Value, W.heap[w.heap.size]? = some (.cells #[v] 32 (0, 0)) ∧ (Kd.int .i64).R 3 W w.heap.size (fun k => k ≠ Bw) v ys
theorem AppI.stable {w : World} {B Bw : Nat} {ys : List Int} (h : w.heap.size ≠ Bw) : Stable B Bw (AppI w Bw ys) := Stable.ex fun _ => (Stable.blk h).and Stable.R

set_option maxHeartbeats 4000000 in
set_option maxRecDepth 100000 in
theorem append_values.calls (Bw : Nat) (A : Option Addr) (c : Nat) (xs : List Int) (w : World) (hb : w.heap[Bw]? = some (.cells #[.slice A xs.length c] 32 (0, 0))) (hC : (Kd.int .i64).C w A xs.length xs) (hl : xs.length * 8 ≤ 140737488355328) :
    Calls Tryd.prog 71 #[.slice none 0 0, .func (.func 74) #[] #[.pointer (some ⟨Bw, 0, none⟩)]] w fun e w' => ∃ v, e = .returned v ∧ (Kd.int .i64).R 3 w' w.heap.size (fun _ => True) v xs ∧ Below w.heap.size w w' := by
  have hBl := blk_lt hb
  refine (callsIn_wide (n := 9)).1 ?_
  refine callsIn_of_wp_marks Tryd.func71 rfl trivial ?_ rfl
  simp only [Tryd.ntmps71, List.size_toArray, List.length_cons, List.length_nil, Nat.reduceAdd, Nat.reduceSub, Array.replicate_succ, Array.replicate_zero, List.push_toArray, List.append_toArray, List.nil_append, List.cons_append]
  gi_wp2
  obtain ⟨W0, hW0⟩ : ∃ W0, w.alloc (Obj.cells #[Value.slice none 0 0] 32) = W0 := ⟨_, rfl⟩
  rw [hW0]
  have hB0 : Below w.heap.size w W0 := by rw [← hW0]; exact below_alloc (Below.refl _ _) _
  have hsz : W0.heap.size = w.heap.size + 1 := by rw [← hW0]; simp
  have b0 : W0.heap[w.heap.size]? = some (.cells #[.slice none 0 0] 32 (0, 0)) := by rw [← hW0]; exact blk_new _ _
  clear hW0
  refine range_values (Bw := Bw) (Bs := W0.heap.size) (c := c) (A := A) (xs := xs) rfl ((hB0.block Bw hBl).trans hb) (fun j W => AppI w W0.heap.size (xs.take j) W ∧ Below w.heap.size w W) (fun _ _ => False)
    (fun u => (AppI.stable (by omega)).and (Stable.below (by omega) (by omega) (by omega))) (fun _ => Stable.pure _) (fun j W h => Kd.C_below hC h.2) ⟨⟨_, b0, Kd.R_nil _ _ _ _ _⟩, hB0⟩ (by simp) ?body ?done (fun D c W hD h hK => h.elim)
  case body =>
    rintro lp j W hlp hlr hj ⟨⟨v, k0, hR⟩, hB⟩
    simp only [List.setIfInBounds_toArray, List.set_cons_zero, List.set_cons_succ]
    have c0 := (blk_cell k0 0).trans rfl
    have f0 := blk_frozen k0 0
    obtain ⟨Av, cv, rfl⟩ := Kd.R_slice hR
    have hlt : (xs.take j).length = j := by rw [List.length_take]; omega
    have hszW : W0.heap.size ≤ W.heap.size := by obtain ⟨r, hr⟩ := hlr; have := blk_lt k0; have := (Array.getElem?_eq_some_iff.1 hr).1; omega
    have htk : xs.take (j + 1) = xs.take j ++ [rd xs (j : Int)] := by
      rw [List.take_add_one, List.getElem?_eq_getElem hj]
      unfold rd; rw [Int.toNat_natCast, List.getD_eq_getElem?_getD, List.getElem?_eq_getElem hj]; rfl
    generalize rd xs (j : Int) = x at *
    rw [hlt] at hR
    have k0' : W.heap[w.heap.size]? = some (.cells #[.slice Av j cv] 32 (0, 0)) := by rw [← hlt]; exact k0
    rw [hlt] at c0
    have HR := Lib.hid hR
    have HK := Lib.hid k0'
    have HL := Lib.hid hlt
    have Hsz := Lib.hid hsz
    clear hlt hsz k0 k0'
    have Htk := Lib.hid htk
    clear hR htk
    refine wpIn_block ?_
    refine wpIn_region_plain (by kernel_rfl) (fun ⟨_, _, h⟩ => h) ?_
    have q1 : ∀ k, W.heap.size ≤ k → k ≠ W0.heap.size := fun k hk => by obtain ⟨r, hr⟩ := hlr; have := (Array.getElem?_eq_some_iff.1 hr).1; omega
    have q2 : w.heap.size ≤ W.heap.size := hB.size
    have q3 : ((xs.take j).length + 1) * 8 ≤ 140737488355328 := by rw [HL.out]; omega
    have HL2 := Lib.hid (show (xs.take j ++ [x]).length = j + 1 by rw [List.length_append, HL.out]; rfl)
    have Q1 := Lib.hid q1
    have Q2 := Lib.hid q2
    have Q3 := Lib.hid q3
    have HB := Lib.hid hB
    clear q1 q2 q3 hB hszW hlr
    go_wp2_with ((with_reducible refine gate_dst (N := 11) rfl ?_); refine Kd.R_append (Kd.int .i64) (w0 := w) w.heap.size rfl (.tmp 8) (.tmp 10) 32 3 (.int .i64 0) 8 rfl Tryd.underlying32 info3 rfl (by decide) (by decide) (.slice Av j cv) (xs.take j) x [.int .i64 x] (fun k => k ≠ W0.heap.size) (fun _ => False) rfl rfl rfl (fun _ h => h.elim) Q1.out HR.out HB.out Q2.out Q3.out ?_; intro v1 w1 hR1 hB1 hg1 hat1; obtain ⟨A1, c1, hv1⟩ := Kd.R_slice hR1; rw [HL2.out] at hv1; subst hv1; have k1 := blk_grown HK.out hg1 (Kd.R_ne HR.out HK.out (by decide)); have d1 : w1.cell? ⟨w.heap.size, 0, none⟩ = some (.slice Av j cv) := (blk_cell k1 0).trans rfl; have e1 := blk_frozen k1 0; have HK1 := Lib.hid k1; clear k1; have HR1 := Lib.hid hR1; have HB1 := Lib.hid hB1; have HG1 := Lib.hid hg1; clear hR1 hB1 hg1 hat1)
    refine ⟨((KeepsOthers.of_grownBy HG1.out (fun r o hr ho => ?_)).trans (KeepsOthers.setCell _ _ _)).from _, ⟨_, blk_put HK1.out 0 _ rfl, ?_⟩, below_set HB1.out (Nat.le_refl _)⟩
    · obtain ⟨cells, hc⟩ := Kd.R_typed HR.out r hr
      rw [hc] at ho; cases ho; rfl
    · rw [Htk.out]; exact Kd.R_set HR1.out HK1.out (by decide) 0 _
  case done =>
    rintro D W hD ⟨⟨v, k0, hR⟩, hB⟩ hK
    rw [List.take_length] at hR
    obtain ⟨Av, cv, rfl⟩ := Kd.R_slice hR
    have c0 := (blk_cell k0 0).trans rfl
    have HR := Lib.hid hR
    have HB := Lib.hid hB
    clear hR hB
    gi_wp2
    refine ⟨by simp, .inl ⟨_, _, rfl, run_takeDeferred hK, ?_⟩⟩
    have hsub := belowK_b (n₀ := w.heap.size) (w := W0) (by omega) W D _ (.deferred none) hD hK rfl rfl
    refine ⟨.slice Av xs.length cv, by simp [results, Tryd.results71, go_sem], _, rfl, ?_, HB.out.trans hsub⟩
    exact Kd.R_mono ((Stable.R (B := W0.heap.size) (Bw := W0.heap.size)).putObj _ HR.out hD hK rfl) (fun _ _ => trivial)
/-- The nodes of a word, as numbers. -/
def ints (l : List Nat) : List Int := l.map fun n : Nat => (n : Int)
theorem bitsOf_len (u : Nat) : (bitsOf u).length ≤ u := by
  induction u using Nat.strongRecOn with
  | _ u ih =>
    by_cases h : u = 0
    · subst h; rw [bitsOf_zero]; exact Nat.le_refl _
    · have := ih _ (nxt_lt h)
      have := nxt_lt h
      rw [bitsOf_cons h, List.length_cons]; omega
theorem grown_below {w W w1 : World} {Bw : Nat} (h : w.grownBy W (some Bw)) (hb : Below w.heap.size W w1) : w.grownBy w1 (some Bw) :=
  ⟨hb.os.trans h.os, hb.tape.trans h.tape, hb.output.trans h.output, Nat.le_trans h.size hb.size, fun k hk hne => (hb.block k hk).trans (h.block k hk hne)⟩
theorem Stable.grown {B Bw : Nat} {w0 : World} (h : w0.heap.size ≤ B) : Stable B Bw (fun W => w0.grownBy W (some Bw)) := fun W W' row hs hg hr =>
  ⟨hg.os.trans hs.os, hg.tape.trans hs.tape, hg.output.trans hs.output, Nat.le_trans hs.size hg.size, fun k hk hne => (hg.block k (Nat.lt_of_lt_of_le hk hs.size) (fun e => by
    rcases hr k e.symm with h1 | h1
    · exact hne (by rw [h1])
    · omega)).trans (hs.block k hk hne)⟩
theorem tab_box {W : World} {Bw : Nat} {o : Array Value} {t : TypeId} {m : Nat × Nat} (hT : Tab W) (hb : W.heap[Bw]? = some (.cells o t m)) (h1 : o.size = 1) : Bw ≠ 0 := by
  rintro rfl
  have h := hT 1 (by omega)
  rw [show W.cell? ⟨0, 1, none⟩ = o[1]? by simp [World.cell?, hb]] at h
  rw [Array.getElem?_eq_none (by omega)] at h
  cases h
theorem tab_grown {W W' : World} {Bw : Nat} (hT : Tab W) (hg : W.grownBy W' (some Bw)) (h : Bw ≠ 0) : Tab W' := fun j hj => by
  have h1 := hT j hj
  have hl : 0 < W.heap.size := World.block_lt_of_cell? W _ h1
  have he : W'.heap[0]? = W.heap[0]? := hg.block 0 hl (fun e => h (by injection e with e; exact e.symm))
  rw [← h1]; simp [World.cell?, he]
theorem tab_below' {B : Nat} {W w1 : World} (hT : Tab W) (hb : Below B W w1) (hB : 0 < B := by omega) : Tab w1 := fun j hj => by
  have h1 := hT j hj
  rw [← h1]; simp [World.cell?, hb.block 0 hB]

set_option maxHeartbeats 4000000 in
set_option maxRecDepth 100000 in
theorem append_each.calls (Bw u : Nat) (w : World) (hb : w.heap[Bw]? = some (.cells #[.int .u32 u] 53 (0, 0))) (hu : u < 4294967296) (hT : Tab w) :
    Calls Tryd.prog 71 #[.slice none 0 0, .func (.func 69) #[] #[.pointer (some ⟨Bw, 0, none⟩)]] w fun e w' => ∃ v, e = .returned v ∧ (Kd.int .i64).R 3 w' w.heap.size (fun _ => True) v (ints (bitsOf u)) ∧ w.grownBy w' (some Bw) := by
  have hBl := blk_lt hb
  refine (callsIn_wide (n := 9)).1 ?_
  refine callsIn_of_wp_marks Tryd.func71 rfl trivial ?_ rfl
  simp only [Tryd.ntmps71, List.size_toArray, List.length_cons, List.length_nil, Nat.reduceAdd, Nat.reduceSub, Array.replicate_succ, Array.replicate_zero, List.push_toArray, List.append_toArray, List.nil_append, List.cons_append]
  gi_wp2
  obtain ⟨W0, hW0⟩ : ∃ W0, w.alloc (Obj.cells #[Value.slice none 0 0] 32) = W0 := ⟨_, rfl⟩
  rw [hW0]
  have hB0 : w.grownBy W0 (some Bw) := by rw [← hW0]; exact World.grownBy_alloc w _ _
  have hsz : W0.heap.size = w.heap.size + 1 := by rw [← hW0]; simp
  have b0 : W0.heap[w.heap.size]? = some (.cells #[.slice none 0 0] 32 (0, 0)) := by rw [← hW0]; exact blk_new _ _
  have hT0 : Tab W0 := tab_grown hT hB0 (tab_box hT hb rfl)
  have bx : W0.heap[Bw]? = some (.cells #[.int .u32 u] 53 (0, 0)) := by rw [← hW0]; exact blk_alloc hb _
  clear hW0
  refine range_each1 (Bw := Bw) (u0 := u) rfl hu bx (fun u' W => ∃ ys : List Int, (ys ++ ints (bitsOf u') = ints (bitsOf u)) ∧ AppI w Bw ys W ∧ w.grownBy W (some Bw) ∧ Tab W) (fun _ _ => False)
    (fun u => Stable.ex fun ys => (Stable.pure _).and ((AppI.stable (by omega)).and ((Stable.grown (by omega)).and (Stable.tab (by omega) (by have := tab_box hT hb rfl; omega))))) (fun _ => Stable.pure _) (fun j W h => by obtain ⟨_, _, _, _, h⟩ := h; exact h) ⟨[], rfl, ⟨_, b0, Kd.R_nil _ _ _ _ _⟩, hB0, hT0⟩ (by simp) ?body ?done (fun D c W hD h hK => h.elim)
  case body =>
    rintro lp u' W hlp hlr hz hul ⟨ys, hys, ⟨v, k0, hR⟩, hB, hTW⟩ hbw
    simp only [List.setIfInBounds_toArray, List.set_cons_zero, List.set_cons_succ]
    have hlen : ys.length ≤ u := by have := congrArg List.length hys; have h2 := bitsOf_len u; simp [ints] at this; omega
    rw [bitsOf_cons hz, ints, List.map_cons] at hys
    generalize ((Lib.ctz 32 u' : Nat) : Int) = x at *
    have c0 := (blk_cell k0 0).trans rfl
    have f0 := blk_frozen k0 0
    obtain ⟨Av, cv, rfl⟩ := Kd.R_slice hR
    have HR := Lib.hid hR
    have HK := Lib.hid k0
    have Hsz := Lib.hid hsz
    have Hys := Lib.hid hys
    have HL2 := Lib.hid (show (ys ++ [x]).length = ys.length + 1 by rw [List.length_append]; rfl)
    have q1 : ∀ k, W.heap.size ≤ k → k ≠ Bw := fun k hk => by have := hB.size; omega
    have Q1 := Lib.hid q1
    have Q2 := Lib.hid hB.size
    have Q3 := Lib.hid (show (ys.length + 1) * 8 ≤ 140737488355328 by omega)
    have HB := Lib.hid hB
    have HT := Lib.hid hTW
    have Hbw := Lib.hid hbw
    have Hbs := Lib.hid hBl
    clear q1 hB hlr hsz k0 hys hTW hbw hR hb hT hBl
    refine wpIn_block ?_
    refine wpIn_region_plain (by kernel_rfl) (fun ⟨_, _, h⟩ => h) ?_
    go_wp2_with ((with_reducible refine gate_dst (N := 11) rfl ?_); refine Kd.R_append (Kd.int .i64) (w0 := W) w.heap.size rfl (.tmp 8) (.tmp 10) 32 3 (.int .i64 0) 8 rfl Tryd.underlying32 info3 rfl (by decide) (by decide) (.slice Av ys.length cv) ys x [.int .i64 x] (fun k => k ≠ Bw) (fun _ => False) rfl rfl rfl (fun _ h => h.elim) Q1.out HR.out (Below.refl _ _) Q2.out Q3.out ?_; intro v1 w1 hR1 hB1 hg1 hat1; obtain ⟨A1, c1, hv1⟩ := Kd.R_slice hR1; rw [HL2.out] at hv1; subst hv1; have k1 := blk_grown HK.out hg1 (Kd.R_ne HR.out HK.out (by decide)); have d1 : w1.cell? ⟨w.heap.size, 0, none⟩ = some (.slice Av ys.length cv) := (blk_cell k1 0).trans rfl; have e1 := blk_frozen k1 0; have HK1 := Lib.hid k1; clear k1; have HR1 := Lib.hid hR1; have HB1 := Lib.hid hB1; have HG1 := Lib.hid hg1; clear hR1 hB1 hg1 hat1)
    have hb1 := blk_grown Hbw.out HG1.out (Kd.R_ne HR.out Hbw.out (by decide))
    have hne : Bw ≠ w.heap.size := by have := Hbs.out; omega
    have hb2 : (w1.setCell ⟨w.heap.size, 0, none⟩ (.slice A1 (ys.length + 1) c1)).heap[Bw]? = some (.cells #[.int .u32 u'] 53 (0, 0)) := (Below.heap_setCell _ _ _ _ hne).trans hb1
    have hgr := grown_below HB.out (HB1.out.setCell (p := ⟨w.heap.size, 0, none⟩) (Nat.le_refl _) (.slice A1 (ys.length + 1) c1))
    refine ⟨((KeepsOthers.of_grownBy HG1.out (fun r o hr ho => ?_)).trans (KeepsOthers.setCell _ _ _)).from _, hb2.trans Hbw.out.symm, ys ++ [x], ?_, ⟨_, blk_put HK1.out 0 _ rfl, ?_⟩, hgr, tab_below' HT.out (HB1.out.setCell (p := ⟨w.heap.size, 0, none⟩) (Nat.le_refl _) _) (by have := Hbs.out; omega)⟩
    · obtain ⟨cells, hc⟩ := Kd.R_typed HR.out r hr
      rw [hc] at ho; cases ho; rfl
    · rw [← Hys.out, ints]; simp
    · exact Kd.R_set HR1.out HK1.out (by decide) 0 _
  case done =>
    rintro D W hD ⟨ys, hys, ⟨v, k0, hR⟩, hB, hTW⟩ hK
    rw [bitsOf_zero, ints, List.map_nil, List.append_nil] at hys
    subst hys
    obtain ⟨Av, cv, rfl⟩ := Kd.R_slice hR
    have c0 := (blk_cell k0 0).trans rfl
    have HR := Lib.hid hR
    have HB := Lib.hid hB
    clear hR hB
    gi_wp2
    refine ⟨by simp, .inl ⟨_, _, rfl, run_takeDeferred hK, ?_⟩⟩
    have hsub := belowK_b (n₀ := w.heap.size) (w := W0) (by omega) W D _ (.deferred none) hD hK rfl rfl
    refine ⟨.slice Av (ints (bitsOf u)).length cv, by simp [results, Tryd.results71, go_sem], _, rfl, ?_, grown_below HB.out hsub⟩
    exact Kd.R_mono ((Stable.R (B := W0.heap.size) (Bw := Bw)).putObj _ HR.out hD hK rfl) (fun _ _ => trivial)

/-! ### Collect, Sorted, Values -/
set_option maxHeartbeats 1000000 in
theorem collect_values.calls (Bw : Nat) (A : Option Addr) (c : Nat) (xs : List Int) (w : World) (hb : w.heap[Bw]? = some (.cells #[.slice A xs.length c] 32 (0, 0))) (hC : (Kd.int .i64).C w A xs.length xs) (hl : xs.length * 8 ≤ 140737488355328) :
    Calls Tryd.prog 43 #[.func (.func 74) #[] #[.pointer (some ⟨Bw, 0, none⟩)]] w fun e w' => ∃ v, e = .returned v ∧ (Kd.int .i64).R 3 w' w.heap.size (fun _ => True) v xs ∧ Below w.heap.size w w' := by
  have h := append_values.calls Bw A c xs w hb hC hl
  clear hb hC hl
  go_enter Tryd.func43, Tryd.ntmps43
  go_wp2_with ((go_at_call 71); refine h.mono ?_; rintro e w1 ⟨v, rfl, hR, hB⟩; obtain ⟨Av, cv, hv⟩ := Kd.R_slice hR; subst hv; have HR := Lib.hid hR; have HB := Lib.hid hB; clear hR hB)
  go_ret
  exact ⟨_, rfl, HR.out, HB.out⟩

set_option maxHeartbeats 1000000 in
theorem collect_each.calls (Bw u : Nat) (w : World) (hb : w.heap[Bw]? = some (.cells #[.int .u32 u] 53 (0, 0))) (hu : u < 4294967296) (hT : Tab w) :
    Calls Tryd.prog 43 #[.func (.func 69) #[] #[.pointer (some ⟨Bw, 0, none⟩)]] w fun e w' => ∃ v, e = .returned v ∧ (Kd.int .i64).R 3 w' w.heap.size (fun _ => True) v (ints (bitsOf u)) ∧ w.grownBy w' (some Bw) := by
  have h := append_each.calls Bw u w hb hu hT
  clear hb hu hT
  go_enter Tryd.func43, Tryd.ntmps43
  go_wp2_with ((go_at_call 71); refine h.mono ?_; rintro e w1 ⟨v, rfl, hR, hB⟩; obtain ⟨Av, cv, hv⟩ := Kd.R_slice hR; subst hv; have HR := Lib.hid hR; have HB := Lib.hid hB; clear hR hB)
  go_ret
  exact ⟨_, rfl, HR.out, HB.out⟩

set_option maxHeartbeats 1000000 in
theorem sorted_values.calls (Bw : Nat) (A : Option Addr) (c : Nat) (xs : List Int) (w : World) (hb : w.heap[Bw]? = some (.cells #[.slice A xs.length c] 32 (0, 0))) (hC : (Kd.int .i64).C w A xs.length xs) (hl : xs.length * 8 ≤ 140737488355328) :
    Calls Tryd.prog 56 #[.func (.func 74) #[] #[.pointer (some ⟨Bw, 0, none⟩)]] w fun e w' => ∃ v, e = .returned v ∧ (Kd.int .i64).R 3 w' w.heap.size (fun _ => True) v (xs.mergeSort fun x y => decide (x ≤ y)) ∧ Below w.heap.size w w' := by
  have h := collect_values.calls Bw A c xs w hb hC hl
  have hs : slices_Sort_int_int.f xs = some (xs.mergeSort fun x y => decide (x ≤ y)) := by unfold slices_Sort_int_int.f; rw [if_pos (by omega)]
  clear hb hC hl
  generalize (xs.mergeSort fun x y => decide (x ≤ y)) = ys at *
  have HS := Lib.hid hs
  clear hs
  go_enter Tryd.func56, Tryd.ntmps56
  go_wp2_with (first | ((go_at_call 43); refine h.mono ?_; rintro e w1 ⟨v, rfl, hR, hB⟩; obtain ⟨Av, cv, hv⟩ := Kd.R_slice hR; subst hv; have HR := Lib.hid hR; have HB := Lib.hid hB; clear hR hB) | ((go_at_call 73); refine (slices_Sort_int_int.calls (fun _ => True) _ xs ys w w1 HB.out HR.out HS.out).mono ?_; rintro e w2 ⟨rfl, hR, hB, _⟩; have HR2 := Lib.hid hR; have HB2 := Lib.hid hB; clear hR hB))
  go_ret
  exact ⟨_, rfl, Kd.R_mono HR2.out (fun _ _ => trivial), HB2.out⟩

theorem values_calls (A : Option Addr) (n c : Nat) (w : World) :
    Calls Tryd.prog 57 #[.slice A n c] w fun e w' => e = .returned (.func (.func 74) #[] #[.pointer (some ⟨w.heap.size, 0, none⟩)]) ∧ w.alloc (.cells #[.slice A n c] 32) = w' := by
  go_enter Tryd.func57, Tryd.ntmps57
  go_wp2
  go_ret
  exact ⟨rfl, rfl⟩

end Go.Proofs.YtoblkmbmacimiaaDoor.G
