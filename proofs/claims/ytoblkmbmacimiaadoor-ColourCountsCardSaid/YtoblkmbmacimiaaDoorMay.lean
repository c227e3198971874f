/- The walk of (*painter).may: which of some colours a node may have. -/
import Derived.Test.YtoblkmbmacimiaaDoorApart
import Derived.Test.YtoblkmbmacimiaaDoorCounted
namespace Go.Proofs.YtoblkmbmacimiaaDoor.G
open Go.RowKit Go.Shelf Go.Proofs.YtoblkmbmacimiaaDoorW.PrintWords Go.Proofs.YtoblkmbmacimiaaDoorW.PrintLast Go.Proofs.YtoblkmbmacimiaaDoorW.PrintMore
open Go.Proofs.YtoblkmbmacimiaaDoor.B Go.Proofs.YtoblkmbmacimiaaDoor.L
attribute [local go_sem] Oper.semAt_some

theorem blk_drew' {W : World} {b : Nat} {o : Option Obj} (h : W.heap[b]? = o) : W.drew.heap[b]? = o := h

/-- Between two rounds of painter.may. -/
def MayI (w : World) (pb : Nat) (l : List Int) (r : Int) (u' : Nat) (W : World) : Prop := ∃ wv : Int, (mayW l u' wv = r ∧ ∀ j ∈ bitsOf u', j < l.length ∧ rd l j < 32) ∧ W.heap[w.heap.size]? = some (.cells #[.pointer (some ⟨pb, 0, none⟩)] 80 (0, 0)) ∧ W.heap[w.heap.size + 1]? = some (.cells #[.int .u32 wv] 53 (0, 0)) ∧ Below w.heap.size w W ∧ Tab W

set_option maxHeartbeats 4000000 in
set_option maxRecDepth 100000 in
theorem painter_may.calls (pb : Nat) (An Al : Option Addr) (cn cl : Nat) (near l : List Int) (i k : Int) (u : Nat) (w : World)
    (hp : w.heap[pb]? = some (.cells #[.slice An near.length cn, .slice Al l.length cl] 85 (0, 0))) (hn : (Kd.int .u32).C w An near.length near) (hl : (Kd.int .i64).C w Al l.length l)
    (h0 : 0 ≤ i) (h1 : i < near.length) (hu : rd near i = u) (hu32 : u < 4294967296) (hub : ∀ j ∈ bitsOf u, j < l.length) (hk0 : 0 ≤ k) (hk : k < 32) (hl32 : ∀ j ∈ bitsOf u, rd l j < 32) (hT : Tab w) :
    Calls Tryd.prog 54 #[.pointer (some ⟨pb, 0, none⟩), .int .i64 i, .int .i64 k] w fun e w' => e = .returned (.int .u32 (mayW l u ((2 ^ k.toNat - 1) % 4294967296))) ∧ Below w.heap.size w w' := by
  refine (callsIn_wide (n := 9)).1 ?_
  refine callsIn_of_wp_marks Tryd.func54 rfl trivial ?_ rfl
  simp only [Tryd.ntmps54, List.size_toArray, List.length_cons, List.length_nil, Nat.reduceAdd, Nat.reduceSub, Array.replicate_succ, Array.replicate_zero, List.push_toArray, List.append_toArray, List.nil_append, List.cons_append]
  obtain ⟨r, hr⟩ : ∃ r, mayW l u ((2 ^ k.toNat - 1) % 4294967296) = r := ⟨_, rfl⟩
  rw [hr]
  have Hr := Lib.hid hr
  clear hr
  have cp0 : w.cell? ⟨pb, 0, none⟩ = some (.slice An near.length cn) := (blk_cell hp 0).trans rfl
  have cp1 : w.cell? ⟨pb, 1, none⟩ = some (.slice Al l.length cl) := (blk_cell hp 1).trans rfl
  obtain ⟨ad, rfl, hx⟩ := Kd.at_int hn i h0 h1
  rw [hu] at hx
  have cq0 : ∀ o1 o2, ((w.alloc o1).alloc o2).cell? ⟨pb, 0, none⟩ = some (.slice (some ad) near.length cn) := fun o1 o2 => ((below_alloc (below_alloc (Below.refl w.heap.size w) o1) o2).cell (World.block_lt_of_cell? w _ cp0)).trans cp0
  have cq1 : ∀ o1 o2, ((w.alloc o1).alloc o2).cell? (ad.add i.toNat) = some (.int .u32 u) := fun o1 o2 => ((below_alloc (below_alloc (Below.refl w.heap.size w) o1) o2).cell (World.block_lt_of_cell? w _ hx)).trans hx
  gi_wp2_with (refine ⟨trivial, ?_⟩; refine (calls_in (each_calls u _)).mono ?_; rintro e w' ⟨rfl, rfl⟩)
  obtain ⟨W0, hW0⟩ : ∃ W0, ((w.alloc (Obj.cells #[Value.pointer (some { block := pb, off := 0 })] 80)).alloc (Obj.cells #[Value.int IntKind.u32 ((2 ^ k.toNat - 1) % 4294967296)] 53)).alloc (Obj.cells #[Value.int IntKind.u32 u] 53) = W0 := ⟨_, rfl⟩
  rw [hW0]
  have hB0 : Below w.heap.size w W0 := by rw [← hW0]; exact below_alloc (below_alloc (below_alloc (Below.refl _ _) _) _) _
  have hsz : W0.heap.size = w.heap.size + 3 := by rw [← hW0]; simp
  have b0 : W0.heap[w.heap.size]? = some (.cells #[.pointer (some ⟨pb, 0, none⟩)] 80 (0, 0)) := by rw [← hW0]; exact blk_alloc (blk_alloc (blk_new _ _) _) _
  have b1 : W0.heap[w.heap.size + 1]? = some (.cells #[.int .u32 ((2 ^ k.toNat - 1) % 4294967296)] 53 (0, 0)) := by
    rw [← hW0]; refine blk_alloc ?_ _; have := blk_new (w.alloc (Obj.cells #[Value.pointer (some { block := pb, off := 0 })] 80)) (Obj.cells #[Value.int IntKind.u32 ((2 ^ k.toNat - 1) % 4294967296)] 53); rwa [World.size_alloc] at this
  have b2 : W0.heap[w.heap.size + 2]? = some (.cells #[.int .u32 u] 53 (0, 0)) := by
    rw [← hW0]; have := blk_new ((w.alloc (Obj.cells #[Value.pointer (some { block := pb, off := 0 })] 80)).alloc (Obj.cells #[Value.int IntKind.u32 ((2 ^ k.toNat - 1) % 4294967296)] 53)) (Obj.cells #[Value.int IntKind.u32 u] 53); rwa [World.size_alloc, World.size_alloc] at this
  have hT0 : Tab W0 := tab_below hT hB0
  clear hW0 cq0 cq1
  have hall : ∀ j ∈ bitsOf u, j < l.length ∧ rd l j < 32 := fun j hj => ⟨hub j hj, hl32 j hj⟩
  clear hub hl32 hu hx cp0 h0 h1 hn
  refine range_each (Bw := w.heap.size + 2) (u0 := u) rfl hu32 b2
    (MayI w pb l r)
    (fun _ _ => False)
    (fun u' => Stable.ex fun wv => (Stable.pure _).and ((Stable.blk (by omega)).and ((Stable.blk (by omega)).and ((Stable.below (Nat.le_refl _) (by omega) (by omega)).and (Stable.tab (by omega) (by omega))))))
    (fun c => Stable.pure _)
    (fun u' W h => by obtain ⟨_, _, _, _, _, h⟩ := h; exact h) ⟨_, ⟨Hr.out, hall⟩, b0, b1, hB0, hT0⟩
    (fun u' a' _ => a' = { tmps := #[Value.pointer (some { block := pb, off := 0 }), Value.int IntKind.i64 i, Value.int IntKind.i64 k, Value.pointer (some { block := w.heap.size, off := 0 }), undef, undef, Value.int IntKind.u32 0, Value.pointer (some { block := w.heap.size + 1, off := 0 }), Value.int .i64 (Lib.ctz 32 u'), Value.int IntKind.i64 k, Value.int IntKind.u32 (2 ^ k.toNat % 4294967296), Value.int IntKind.u32 ((2 ^ k.toNat - 1) % 4294967296), Value.pointer (some { block := pb, off := 0 }), Value.pointer (some { block := pb, off := 0 }), Value.pointer (some { block := pb, off := 0 }), Value.slice (some ad) near.length cn, Value.int IntKind.i64 i, Value.pointer (some (ad.add i.toNat)), Value.int IntKind.u32 u, Value.func (Fn.func 69) #[] #[Value.pointer (some { block := w.heap.size + 1 + 1, off := 0 })], Value.int .i64 (Lib.ctz 32 u'), undef, undef, undef, undef, undef, undef, undef, undef, undef, undef, undef, undef, undef, undef, undef, undef, undef, undef, undef], defers := [] })
    (fun u' a' => Stable.pure _) ?assign ?body ?done ?stop
  case assign =>
    intro l' u' W K hz hi hb hK
    gi_wp2
    exact hK _ _ (KeepsFrom.refl _ _) rfl hi rfl
  case body =>
    rintro l' u' a' W hl' hlr hz hul ⟨wv, ⟨hall', hlen⟩, b0', b1', hB, hT'⟩ rfl hbw
    rw [mayW, bitsOf_cons hz, List.foldl_cons] at hall'
    rw [bitsOf_cons hz] at hlen
    obtain ⟨hlt, h32⟩ := hlen _ List.mem_cons_self
    have Hlen := Lib.hid (fun i (hi : i ∈ bitsOf (nxt u')) => hlen i (List.mem_cons_of_mem _ hi))
    obtain ⟨al, rfl, hx⟩ := Kd.at_int (Kd.C_below hl hB) (Lib.ctz 32 u') (by omega) (by omega)
    rw [Int.toNat_natCast] at hx
    have cp1' : W.cell? ⟨pb, 1, none⟩ = some (.slice (some al) l.length cl) := (hB.cell (World.block_lt_of_cell? w _ cp1)).trans cp1
    have c0' := (blk_cell b0' 0).trans rfl
    have c1' := (blk_cell b1' 0).trans rfl
    have f1' := blk_frozen b1' 0
    have hi1 : (0 : Int) ≤ (Lib.ctz 32 u' : Int) := by omega
    have hi2 : (Lib.ctz 32 u' : Int) < (l.length : Int) := by omega
    have hfo : Tryd.prog.follows .mixedOrders = true := by kernel_rfl
    have HT := Lib.hid hT
    clear hlen hall Hr b0 b1 b2 hB0 hT0 hu32 hk0 hk hT hlr hul hp cp1 hl
    by_cases hP : 0 ≤ rd l (Lib.ctz 32 u')
    · have hstr : strike l wv (Lib.ctz 32 u') = Go.bits .andNot .u32 wv (shl .u32 1 (rd l (Lib.ctz 32 u'))) := if_pos hP
      have hsh : shl .u32 1 (rd l (Lib.ctz 32 u')) = IntKind.u32.wrap (2 ^ (rd l (Lib.ctz 32 u')).toNat) := by
        unfold shl
        rw [Int.one_mul, Nat.min_eq_left (by show _ ≤ 32; omega)]
      rw [hstr, hsh] at hall'
      have Hall := Lib.hid hall'
      clear hall' hstr hsh
      have fin : ∀ a1 : Act, eachPost W0.heap.size (w.heap.size + 2) u' (MayI w pb l r) (fun _ _ => False) W Exit.normal a1 (W.setCell ⟨w.heap.size + 1, 0, none⟩ (Value.int IntKind.u32 (bits BinOp.andNot IntKind.u32 wv (IntKind.u32.wrap (2 ^ (rd l ↑(Lib.ctz 32 u')).toNat))))).drew := fun a1 => by
        have hbel : Below w.heap.size w (W.setCell ⟨w.heap.size + 1, 0, none⟩ (Value.int IntKind.u32 (bits BinOp.andNot IntKind.u32 wv (IntKind.u32.wrap (2 ^ (rd l ↑(Lib.ctz 32 u')).toNat))))).drew := (below_set hB (Nat.le_succ _)).drew
        exact ⟨((KeepsOthers.setCell _ _ _).trans (KeepsOthers.drew _)).from _, blk_drew' (Below.heap_setCell _ _ _ _ (by simp)), _, ⟨Hall.out, Hlen.out⟩, blk_drew ((Below.heap_setCell _ _ _ _ (by simp)).trans b0'), blk_drew (blk_put b1' 0 _ rfl), hbel, tab_below HT.out hbel⟩
      gi_wp2
      gi_region_with_o (fail)
      all_goals gi_wp2
      all_goals
        exact fin _
    · have hstr : strike l wv (Lib.ctz 32 u') = wv := if_neg hP
      rw [hstr] at hall'
      have Hall := Lib.hid hall'
      clear hall' hstr
      have hge : decide (0 ≤ rd l (Lib.ctz 32 u')) = false := decide_eq_false hP
      gi_wp2
      exact ⟨KeepsFrom.refl _ _, rfl, _, ⟨Hall.out, Hlen.out⟩, b0', b1', hB, hT'⟩
  case done =>
    rintro D W hD ⟨wv, ⟨hall', hlen⟩, b0', b1', hB, hT'⟩ hK
    have c1' := (blk_cell b1' 0).trans rfl
    rw [mayW, bitsOf_zero, List.foldl_nil] at hall'
    subst hall'
    gi_wp2
    refine ⟨by simp, .inl ⟨_, _, rfl, run_takeDeferred hK, ?_⟩⟩
    refine ⟨.int .u32 wv, by simp [results, Tryd.results54, go_sem], rfl, ?_⟩
    exact hB.trans (belowK_b (w := W0) (by omega) _ D _ _ hD hK rfl rfl)
  case stop =>
    rintro D c W hD h hK
    exact h.elim

end Go.Proofs.YtoblkmbmacimiaaDoor.G
