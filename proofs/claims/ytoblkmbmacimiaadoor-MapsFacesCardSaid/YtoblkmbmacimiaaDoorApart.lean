/- The walk of colour.apart: no node of a word has a neighbour in it. -/
import Derived.Test.YtoblkmbmacimiaaDoorEach1
import Derived.Test.YtoblkmbmacimiaaDoorGZero
import Derived.Outline
import Derived.Lib.Hide
namespace Go.Proofs.YtoblkmbmacimiaaDoor.G
open Go.RowKit Go.Shelf Go.Proofs.YtoblkmbmacimiaaDoorW.PrintWords Go.Proofs.YtoblkmbmacimiaaDoorW.PrintLast Go.Proofs.YtoblkmbmacimiaaDoorW.PrintMore
open Go.Proofs.YtoblkmbmacimiaaDoor.B
attribute [local go_sem] Oper.semAt_some

theorem each_calls (x : Nat) (w : World) :
    Calls Tryd.prog 37 #[.int .u32 x] w fun e w' => e = .returned (.func (.func 69) #[] #[.pointer (some ⟨w.heap.size, 0, none⟩)]) ∧ w.alloc (.cells #[.int .u32 x] 53) = w' := by
  go_enter Tryd.func37, Tryd.ntmps37
  go_wp2
  go_ret
  exact ⟨rfl, rfl⟩

/-- Has a node no neighbour in a word? -/
def apP (l : List Int) (s : Int) (i : Nat) : Bool := Go.bits .and .u32 (rd l i) s == 0

def colour_apart.f (l : List Int) (s : Int) : Option Bool :=
  if 0 ≤ s ∧ s < 4294967296 ∧ ∀ i ∈ bitsOf s.toNat, i < l.length then some ((bitsOf s.toNat).all (apP l s)) else none

theorem colour_apart.calls (A0 : Option Addr) (c0 : Nat) (l0 : List Int) (a1 : Int) (r : Bool) (w : World) (hr0 : (Kd.int .u32).C w A0 l0.length l0) (_hc0 : l0.length ≤ c0) (h : colour_apart.f l0 a1 = some r) (hT : Tab w := by first | assumption | exact HT_.out | exact Go.Proofs.YtoblkmbmacimiaaDoor.B.tab_below HT_.out (by repeat (first | (with_reducible first | exact HB.out | apply below_alloc | apply pw_below_drewN | apply below_drew1 | refine below_set ?_ (Aside0.out (by assumption))) | exact HB.out))) :
    Calls Tryd.prog 32 #[.slice A0 l0.length c0, .int .u32 a1] w fun e w' => e = .returned (.bool r) ∧ Below w.heap.size w w' := by
  unfold colour_apart.f at h
  split at h
  case isFalse => cases h
  case isTrue hh =>
  obtain ⟨h0, h1, h2⟩ := hh
  obtain ⟨s, rfl⟩ := Int.eq_ofNat_of_zero_le h0
  rw [Int.toNat_natCast] at h h2
  have hs : s < 4294967296 := by omega
  have H := Lib.hid h
  clear h
  refine (callsIn_wide (n := 9)).1 ?_
  refine callsIn_of_wp_marks Tryd.func32 rfl trivial ?_ rfl
  simp only [Tryd.ntmps32, List.size_toArray, List.length_cons, List.length_nil, Nat.reduceAdd, Nat.reduceSub, Array.replicate_succ, Array.replicate_zero, List.push_toArray, List.append_toArray, List.nil_append, List.cons_append]
  gi_wp2_with (refine ⟨trivial, ?_⟩; refine (calls_in (each_calls s _)).mono ?_; rintro e w' ⟨rfl, rfl⟩)
  obtain ⟨W0, hW0⟩ : ∃ W0, (((w.alloc (Obj.cells #[Value.slice A0 l0.length c0] 31)).alloc (Obj.cells #[Value.int IntKind.u32 s] 53)).alloc (Obj.cells #[Value.bool false] 4)).alloc (Obj.cells #[Value.int IntKind.u32 s] 53) = W0 := ⟨_, rfl⟩
  rw [hW0]
  have hB0 : Below w.heap.size w W0 := by rw [← hW0]; exact below_alloc (below_alloc (below_alloc (below_alloc (Below.refl _ _) _) _) _) _
  have hsz : W0.heap.size = w.heap.size + 4 := by rw [← hW0]; simp
  have k0 : W0.heap[w.heap.size]? = some (.cells #[.slice A0 l0.length c0] 31 (0, 0)) := by rw [← hW0]; exact blk_alloc (blk_alloc (blk_alloc (blk_new _ _) _) _) _
  have k1 : W0.heap[w.heap.size + 1]? = some (.cells #[.int .u32 s] 53 (0, 0)) := by
    rw [← hW0]; refine blk_alloc (blk_alloc ?_ _) _; have := blk_new (w.alloc (Obj.cells #[Value.slice A0 l0.length c0] 31)) (Obj.cells #[Value.int IntKind.u32 s] 53); rwa [World.size_alloc] at this
  have k2 : W0.heap[w.heap.size + 2]? = some (.cells #[.bool false] 4 (0, 0)) := by
    rw [← hW0]; refine blk_alloc ?_ _; have := blk_new ((w.alloc (Obj.cells #[Value.slice A0 l0.length c0] 31)).alloc (Obj.cells #[Value.int IntKind.u32 s] 53)) (Obj.cells #[Value.bool false] 4); rwa [World.size_alloc, World.size_alloc] at this
  have k3 : W0.heap[w.heap.size + 3]? = some (.cells #[.int .u32 s] 53 (0, 0)) := by
    rw [← hW0]; have := blk_new (((w.alloc (Obj.cells #[Value.slice A0 l0.length c0] 31)).alloc (Obj.cells #[Value.int IntKind.u32 s] 53)).alloc (Obj.cells #[Value.bool false] 4)) (Obj.cells #[Value.int IntKind.u32 s] 53); rwa [World.size_alloc, World.size_alloc, World.size_alloc] at this
  have hT0 : Tab W0 := fun j hj => by
    have h := hT j hj
    exact (hB0.cell (World.block_lt_of_cell? w _ h)).trans h
  have hpos : 0 < w.heap.size := World.block_lt_of_cell? w _ (hT 0 (by omega))
  clear hW0
  refine range_each (Bw := w.heap.size + 3) (u0 := s) rfl hs k3
    (fun u W => (some ((bitsOf u).all (apP l0 s)) = some r ∧ ∀ i ∈ bitsOf u, i < l0.length) ∧ W.heap[w.heap.size]? = some (.cells #[.slice A0 l0.length c0] 31 (0, 0)) ∧ W.heap[w.heap.size + 1]? = some (.cells #[.int .u32 s] 53 (0, 0)) ∧ W.heap[w.heap.size + 2]? = some (.cells #[.bool false] 4 (0, 0)) ∧ Below w.heap.size w W ∧ Tab W)
    (fun c W => (c = .ret ∧ r = false) ∧ W.heap[w.heap.size + 2]? = some (.cells #[.bool false] 4 (0, 0)) ∧ Below w.heap.size w W)
    (fun u => (Stable.pure _).and ((Stable.blk (by omega)).and ((Stable.blk (by omega)).and ((Stable.blk (by omega)).and ((Stable.below (Nat.le_refl _) (by omega) (by omega)).and (Stable.tab (by omega) (by omega)))))))
    (fun c => (Stable.pure _).and ((Stable.blk (by omega)).and (Stable.below (Nat.le_refl _) (by omega) (by omega))))
    (fun u W h => h.2.2.2.2.2) ⟨⟨H.out, h2⟩, k0, k1, k2, hB0, hT0⟩
    (fun u a' _ => a' = { tmps := #[Value.slice A0 l0.length c0, Value.int IntKind.u32 s, Value.pointer (some { block := w.heap.size, off := 0 }), Value.pointer (some { block := w.heap.size + 1, off := 0 }), Value.pointer (some { block := w.heap.size + 1 + 1, off := 0 }), Value.int .i64 (Lib.ctz 32 u), Value.int IntKind.u32 s, Value.func (Fn.func 69) #[] #[Value.pointer (some { block := w.heap.size + 1 + 1 + 1, off := 0 })], Value.int .i64 (Lib.ctz 32 u), undef, undef, undef, undef, undef, undef, undef], defers := [] })
    (fun u a' => Stable.pure _) ?assign ?body ?done ?stop
  case assign =>
    intro l u W K hz hi hb hK
    gi_wp2
    exact hK _ _ (KeepsFrom.refl _ _) rfl hi rfl
  case body =>
    rintro l u a' W hl hr hz hul ⟨⟨hall, hlen⟩, b0, b1, b2, hB, hT'⟩ rfl hbw
    rw [bitsOf_cons hz] at hall hlen
    have hlt : Lib.ctz 32 u < l0.length := hlen _ List.mem_cons_self
    obtain ⟨ad, rfl, hx⟩ := Kd.at_int (Kd.C_below hr0 hB) (Lib.ctz 32 u) (by omega) (by omega)
    rw [Int.toNat_natCast] at hx
    have c0' := (blk_cell b0 0).trans rfl
    have c1' := (blk_cell b1 0).trans rfl
    have c2' := (blk_cell b2 0).trans rfl
    have f2' := blk_frozen b2 0
    have hi1 : (0 : Int) ≤ (Lib.ctz 32 u : Int) := by omega
    have hi2 : (Lib.ctz 32 u : Int) < (l0.length : Int) := by omega
    have hfo : Tryd.prog.follows .mixedOrders = true := by kernel_rfl
    have hc : ((bitsOf (nxt u)).all (apP l0 s) && apP l0 s (Lib.ctz 32 u)) = r := by
      simp only [List.all_cons] at hall
      rw [Bool.and_comm]
      exact Option.some.inj hall
    have Hlen := Lib.hid (fun i (hi : i ∈ bitsOf (nxt u)) => hlen i (List.mem_cons_of_mem _ hi))
    have Hc := Lib.hid hc
    clear hall hlen hc H h2
    by_cases hP : apP l0 s (Lib.ctz 32 u) = true
    · have hb1 : (Go.bits .and .u32 (rd l0 (Lib.ctz 32 u)) s != 0) = false := by simpa [apP] using hP
      have Hd := Lib.hid hP
      clear hP
      gi_wp2
      gi_region_with_o (fail)
      all_goals gi_wp2
      all_goals exact ⟨(KeepsOthers.drew _).from _, rfl, ⟨by have h1 := Hc.out; rw [Hd.out, Bool.and_true] at h1; rw [h1], Hlen.out⟩, blk_drew b0, blk_drew b1, blk_drew b2, hB.drew, hT'⟩
    · have hb1 : (Go.bits .and .u32 (rd l0 (Lib.ctz 32 u)) s != 0) = true := by simpa [apP] using hP
      have Hd := Lib.hid (Bool.eq_false_iff.2 hP)
      clear hP
      gi_wp2
      gi_region_with_o (fail)
      all_goals gi_wp2
      all_goals exact ⟨((KeepsOthers.drew _).trans (KeepsOthers.setCell _ _ _)).from _, ⟨rfl, by have h1 := Hc.out; rw [Hd.out, Bool.and_false] at h1; exact h1.symm⟩, blk_put (blk_drew b2) 0 _ rfl, below_set hB.drew (by omega)⟩
  case done =>
    rintro D W hD ⟨⟨hall, hlen⟩, b0, b1, b2, hB, hT'⟩ hK
    have c2' := (blk_cell b2 0).trans rfl
    have f2' := blk_frozen b2 0
    rw [bitsOf_zero] at hall
    have Hall := Lib.hid (Option.some.inj hall)
    clear hall
    gi_wp2
    have hK2 : (W.setCell ⟨w.heap.size + 2, 0, none⟩ (.bool true)).heap[D]? = some (.deferred (some [])) := (Below.heap_setCell W ⟨w.heap.size + 2, 0, none⟩ _ D (by simp; omega)).trans hK
    refine ⟨by simp, .inl ⟨_, _, rfl, run_takeDeferred hK2, ?_⟩⟩
    have e1 : ((W.setCell ⟨w.heap.size + 2, 0, none⟩ (.bool true)).putObj D (.deferred none)).heap[w.heap.size + 2]? = some (.cells #[.bool true] 4 (0, 0)) := (World.putObj_heap_other (by omega)).trans (blk_put b2 0 _ rfl)
    have c3 := (blk_cell e1 0).trans rfl
    refine ⟨.bool true, by simp [results, Tryd.results32, go_sem, c3], by rw [← Hall.out]; rfl, ?_⟩
    exact (below_set hB (by omega)).trans (belowK_b (w := W0) (by omega) _ D _ _ hD hK2 rfl rfl)
  case stop =>
    rintro D c W hD ⟨⟨rfl, hr⟩, b2, hB⟩ hK
    have c2' := (blk_cell b2 0).trans rfl
    have f2' := blk_frozen b2 0
    gi_wp2
    refine ⟨by simp, .inl ⟨_, _, rfl, run_takeDeferred hK, ?_⟩⟩
    have e1 : (W.putObj D (.deferred none)).heap[w.heap.size + 2]? = some (.cells #[.bool false] 4 (0, 0)) := (World.putObj_heap_other (by omega)).trans b2
    have c3 := (blk_cell e1 0).trans rfl
    refine ⟨.bool false, by simp [results, Tryd.results32, go_sem, c3], by rw [hr], ?_⟩
    exact hB.trans (belowK_b (w := W0) (by omega) _ D _ _ hD hK rfl rfl)

end Go.Proofs.YtoblkmbmacimiaaDoor.G
