/- The walk of colour.fresh: nothing is coloured. -/
import Derived.Test.YtoblkmbmacimiaaDoorRepeat
import Derived.Test.YtoblkmbmacimiaaDoorGgraphNear
import Derived.Test.YtoblkmbmacimiaaDoorEach1
namespace Go.Proofs.YtoblkmbmacimiaaDoor.G
open Go.RowKit Go.Shelf Go.Proofs.YtoblkmbmacimiaaDoorW.PrintWords Go.Proofs.YtoblkmbmacimiaaDoorW.PrintLast Go.Proofs.YtoblkmbmacimiaaDoorW.PrintMore
attribute [local go_sem] Oper.semAt_some

theorem bcell {W w1 : World} (hb : Below W.heap.size W w1) : (∀ b o, b < W.heap.size → w1.cell? ⟨b, o, none⟩ = W.cell? ⟨b, o, none⟩) ∧ (∀ b o, b < W.heap.size → w1.frozen? ⟨b, o, none⟩ = W.frozen? ⟨b, o, none⟩) :=
  ⟨fun b o h => hb.cell (p := ⟨b, o, none⟩) h, fun b o h => hb.frozen (p := ⟨b, o, none⟩) h⟩

/-- What colour.fresh gives: a painter, its words of neighbours, its row of colours. -/
def Fresh (w : World) (nb : List Int) (n : Nat) (e : Ending) (w' : World) : Prop :=
  ∃ (pb : Nat) (vn vl : Value), e = .returned (.pointer (some ⟨pb, 0, none⟩)) ∧ w.heap.size ≤ pb ∧ w'.heap[pb]? = some (.cells #[vn, vl] 85 (0, 0)) ∧ (Kd.int .u32).R 53 w' w.heap.size (fun _ => True) vn nb ∧ (Kd.int .i64).R 3 w' w.heap.size (fun _ => True) vl (List.replicate n (-1)) ∧ Below w.heap.size w w'

set_option maxHeartbeats 4000000 in
set_option maxRecDepth 100000 in
theorem colour_fresh.calls (k n : Nat) (A : Option Addr) (c : Nat) (l : List S57) (nb : List Int) (w : World) (hn : n ≤ 10) (hC : k57.C w A l.length l) (hlc : l.length ≤ c) (h : graph_Near.f k n l = some nb) :
    Calls Tryd.prog 52 #[.agg #[.int .i64 n, .slice A l.length c]] w (Fresh w nb n) := by
  have near_any : ∀ W, Below w.heap.size w W → Calls Tryd.prog 31 #[.agg #[.int .i64 n, .slice A l.length c]] W fun e w' => ∃ v0_ : Value, e = .returned (v0_) ∧ Kd.R (Kd.int .u32) 53 w' w.heap.size (fun _ => True) v0_ nb ∧ Below W.heap.size W w' := fun W hb =>
    (graph_Near.calls k n A c l nb W (Kd.C_below hC hb) hlc h).mono fun e w' ⟨v, h1, h2, h3⟩ => ⟨v, h1, Kd.R_lower h2 hb.size, h3⟩
  have rep_any : ∀ W g, Below w.heap.size w W → W.heap[g]? = some (.cells #[.int .i64 (-1)] 3 (0, 0)) → Calls Tryd.prog 72 #[.slice (some ⟨g, 0, none⟩) 1 1, .int .i64 n] W fun e w' => ∃ v0_ : Value, e = .returned (v0_) ∧ Kd.R (Kd.int .i64) 3 w' w.heap.size (fun _ => True) v0_ (List.replicate n (-1)) ∧ Below W.heap.size W w' := fun W g hb hg =>
    (repeat_one.calls (some ⟨g, 0, none⟩) 1 (-1) n (by omega) W ⟨rfl, by simp, fun _ => ⟨_, rfl, fun j p hj => by
      have : j = 0 := by have := (List.getElem?_eq_some_iff.1 hj).1; simpa using this
      subst this
      cases hj
      refine ⟨[.int .i64 (-1)], rfl, rfl, fun i u hu => ?_⟩
      have : i = 0 := by have := (List.getElem?_eq_some_iff.1 hu).1; simpa using this
      subst this
      cases hu
      exact (blk_cell hg 0).trans rfl⟩⟩).mono fun e w' ⟨v, h1, h2, h3⟩ => ⟨v, h1, Kd.R_lower h2 hb.size, h3⟩
  clear h hC
  go_enter Tryd.func52, Tryd.ntmps52
  go_wp2
  obtain ⟨W0, hW0⟩ : ∃ W0, w.alloc (.cells #[.int .i64 n, .slice A l.length c] 24) = W0 := ⟨_, rfl⟩
  rw [hW0]
  have hb0 : Below w.heap.size w W0 := by rw [← hW0]; exact below_alloc (Below.refl _ _) _
  have k0 : W0.heap[w.heap.size]? = some (.cells #[.int .i64 n, .slice A l.length c] 24 (0, 0)) := by rw [← hW0]; exact blk_new _ _
  clear hW0
  have c0 : W0.cell? ⟨w.heap.size, 0, none⟩ = some (.int .i64 n) := (blk_cell k0 0).trans rfl
  have c1 : W0.cell? ⟨w.heap.size, 1, none⟩ = some (.slice A l.length c) := (blk_cell k0 1).trans rfl
  have hz : w.heap.size < W0.heap.size := blk_lt k0
  have hz2 : w.heap.size < W0.heap.size + 1 := by omega
  have hfo : Tryd.prog.follows .mixedOrders = true := by kernel_rfl
  go_region_with (first
    | (go_at_call 31; refine (near_any _ ?nb).mono ?_; (case nb => first | exact hb0.drew | exact below_alloc hb0.drew _); rintro e w1 ⟨v0, rfl, hR, hb1⟩; obtain ⟨An, cn, rfl⟩ := Kd.R_slice hR; have hbw : Below W0.heap.size W0 w1 := (by first | exact (Below.refl _ W0).drew.trans hb1 | exact (below_alloc (Below.refl W0.heap.size W0).drew _).trans (hb1.mono (by simp))); have hz3 : w.heap.size < w1.heap.size := Nat.lt_of_lt_of_le hz hbw.size; have d0 := (hbw.cell (p := ⟨w.heap.size, 0, none⟩) hz).trans c0; have d1 := (hbw.cell (p := ⟨w.heap.size, 1, none⟩) hz).trans c1)
    | (go_at_call 72; refine (rep_any _ _ ?rb ?rg).mono ?_; (case rb => first | exact below_alloc (hb0.drew.trans (hb1.mono hb0.size)) _ | exact (below_alloc hb0.drew _).trans (hb1.mono (Nat.le_trans hb0.size (by simp)))); (case rg => first | exact blk_new _ _ | exact (hb1.block _ (by simp)).trans (blk_new _ _)); rintro e w2 ⟨v1, rfl, hR2, hb2⟩; obtain ⟨Al, cl, rfl⟩ := Kd.R_slice hR2; have hR3 : (Kd.int .i64).R 3 w2 w.heap.size (fun _ => True) (.slice Al n cl) (List.replicate n (-1)) := (by have h := hR2; rw [List.length_replicate] at h; exact h); have hbw2 : Below W0.heap.size W0 w2 := (by first | exact hbw.trans (hb2.mono hbw.size) | exact hbw.trans (((below_alloc (Below.refl w1.heap.size w1) _).trans (hb2.mono (by simp))).mono hbw.size)); have hR1 := (by first | exact Kd.R_below hR hb2 | exact Kd.R_below (Kd.R_alloc hR _) hb2 : (Kd.int .u32).R 53 w2 w.heap.size (fun _ => True) (.slice An nb.length cn) nb)))
  all_goals
    have hbt := hb0.trans (hbw2.mono hb0.size)
    go_wp2
    go_ret
    exact ⟨_, _, _, rfl, hbt.size, blk_new _ _, Kd.R_alloc hR1 _, Kd.R_alloc hR3 _, below_alloc hbt _⟩

end Go.Proofs.YtoblkmbmacimiaaDoor.G
