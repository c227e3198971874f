/- The walk of colour.Count. -/
import Derived.Test.YtoblkmbmacimiaaDoorCnt
import Derived.Test.YtoblkmbmacimiaaDoorFresh
import Derived.Laws.EntriesVeiled
namespace Go.Proofs.YtoblkmbmacimiaaDoor.G
open Go.RowKit Go.Shelf Go.Proofs.YtoblkmbmacimiaaDoorW.PrintWords Go.Proofs.YtoblkmbmacimiaaDoorW.PrintLast Go.Proofs.YtoblkmbmacimiaaDoorW.PrintMore
open Go.Proofs.YtoblkmbmacimiaaDoor.B Go.Proofs.YtoblkmbmacimiaaDoor.L
attribute [local go_sem] Oper.semAt_some

def colour_Count.f (n : Int) (l : List S57) (k : Int) : Option (Int × Int) :=
  if gcheck n l ≠ 0 then some (0, gcheck n l) else if k < 0 ∨ 12 < k then some (0, 4) else some (wrap64 (col (apartB (E l)) k.toNat (2 ^ n.toNat - 1)), 0)

/-- A row of one's own as a row in a block. -/
theorem row_of_R {W : World} {b : Nat} {e : Nat} {K : IntKind} {ok : Nat → Prop} {v : Value} {xs : List Int} (h : (Kd.int K).R e W b ok v xs) (hp : 0 < xs.length) : ∃ g c, v = .slice (some ⟨g, 0, none⟩) xs.length c ∧ b ≤ g ∧ Row W g e K xs.length xs := by
  obtain ⟨g, c, rfl, hb, _, cells, hc⟩ := Kd.R_form h hp
  refine ⟨g, c, rfl, hb, cells, hc, fun j hj => ?_⟩
  have := (Kd.R_celln (0 : Int) h (j : Int) (by omega) (by omega)).1
  rw [Int.toNat_natCast, blk_cell hc j] at this
  rw [this]
  rfl

def Fresh2 (W : World) (nb : List Int) (m : Nat) (e : Ending) (w' : World) : Prop :=
  ∃ (pb : Nat) (vn vl : Value) (gn lb : Nat), e = .returned (.pointer (some ⟨pb, 0, none⟩)) ∧ W.heap.size ≤ pb ∧ w'.heap[pb]? = some (.cells #[vn, vl] 85 (0, 0)) ∧
    (0 < m → ∃ cn cl, vn = .slice (some ⟨gn, 0, none⟩) m cn ∧ vl = .slice (some ⟨lb, 0, none⟩) m cl ∧ Row w' gn 53 .u32 m nb ∧ Row w' lb 3 .i64 m (List.replicate m (-1)) ∧ W.heap.size ≤ lb) ∧ Below W.heap.size W w'
theorem fresh2 {W : World} {nb : List Int} {m : Nat} (hl : nb.length = m) {e : Ending} {w' : World} (h : Fresh W nb m e w') : Fresh2 W nb m e w' := by
  obtain ⟨pb, vn, vl, h1, h2, h3, h4, h5, h6⟩ := h
  rcases Nat.eq_zero_or_pos m with h0 | h0
  · exact ⟨pb, vn, vl, 0, 0, h1, h2, h3, fun h => by omega, h6⟩
  · obtain ⟨gn, cn, e1, g1, r1⟩ := row_of_R h4 (by omega)
    obtain ⟨lb, cl, e2, g2, r2⟩ := row_of_R h5 (by rw [List.length_replicate]; omega)
    rw [hl] at e1 r1
    rw [List.length_replicate] at e2 r2
    exact ⟨pb, vn, vl, gn, lb, h1, h2, h3, fun _ => ⟨cn, cl, e1, e2, r1, r2, g2⟩, h6⟩

set_option maxHeartbeats 4000000 in
set_option maxRecDepth 100000 in
theorem colour_Count.calls (n : Int) (A : Option Addr) (c : Nat) (l : List S57) (k : Int) (r1 r2 : Int) (w : World) (hr0_1 : Kd.C k57 w A l.length l) (hc0_1 : l.length ≤ c) (h : colour_Count.f n l k = some (r1, r2)) (hT_ : Go.Proofs.YtoblkmbmacimiaaDoor.B.Tab w := by first | assumption | exact HT_.out | exact Go.Proofs.YtoblkmbmacimiaaDoor.B.tab_below HT_.out (by repeat (first | (with_reducible first | exact HB.out | apply below_alloc | apply pw_below_drewN | apply below_drew1 | refine below_set ?_ (Aside0.out (by assumption))) | exact HB.out))) :
    Calls Tryd.prog 22 #[.agg #[.int .i64 n, .slice A l.length c], .int .i64 k] w fun e w' => e = .returned (.tuple #[.int .i64 r1, .int .i64 r2]) ∧ Below w.heap.size w w' := by
  have hchk : ∀ W, Below w.heap.size w W → Calls Tryd.prog 30 #[.agg #[.int .i64 n, .slice A l.length c]] W fun e w' => e = .returned (.int .i64 (gcheck n l)) ∧ Below W.heap.size W w' := fun W hb => graph_Check.calls n A c l (gcheck n l) W (Kd.C_below hr0_1 hb) hc0_1 rfl
  unfold colour_Count.f at h
  by_cases hg : gcheck n l = 0
  · rw [if_neg (fun h => h hg)] at h
    rw [hg] at hchk
    obtain ⟨m, rfl, g⟩ := good_of hg
    clear hg
    by_cases hk0 : k < 0
    · rw [if_pos (.inl hk0)] at h
      simp only [Option.some.injEq, Prod.mk.injEq] at h
      obtain ⟨rfl, rfl⟩ := h
      go_enter Tryd.func22, Tryd.ntmps22
      go_wp2_with ((go_at_call 30); refine (hchk _ ?hb).mono ?_; (case hb => exact below_alloc (below_alloc (Below.refl _ _) _) _); rintro e w1 ⟨rfl, hb1⟩; obtain ⟨hc1, hf1⟩ := bcell hb1)
      go_ret2
      exact ⟨rfl, (below_alloc (below_alloc (Below.refl _ _) _) _).trans (hb1.mono (by simp; omega))⟩
    by_cases hk1 : 12 < k
    · rw [if_pos (.inr hk1)] at h
      simp only [Option.some.injEq, Prod.mk.injEq] at h
      obtain ⟨rfl, rfl⟩ := h
      have hk0' : 0 ≤ k := by omega
      go_enter Tryd.func22, Tryd.ntmps22
      go_wp2_with ((go_at_call 30); refine (hchk _ ?hb).mono ?_; (case hb => exact below_alloc (below_alloc (Below.refl _ _) _) _); rintro e w1 ⟨rfl, hb1⟩; obtain ⟨hc1, hf1⟩ := bcell hb1)
      go_ret2
      exact ⟨rfl, (below_alloc (below_alloc (Below.refl _ _) _) _).trans (hb1.mono (by simp; omega))⟩
    rw [if_neg (by omega)] at h
    simp only [Option.some.injEq, Prod.mk.injEq] at h
    obtain ⟨rfl, rfl⟩ := h
    obtain ⟨kk, rfl⟩ := Int.eq_ofNat_of_zero_le (show 0 ≤ k by omega)
    obtain ⟨nb, hn, hev⟩ := near_is g
    obtain ⟨fu, hfu⟩ := hev.get
    have h10 := g.n10
    have hkk : kk ≤ 12 := by omega
    have hk0' : (0 : Int) ≤ (kk : Int) := by omega
    have hk1' : (kk : Int) ≤ 12 := by omega
    have hfr : ∀ W, Below w.heap.size w W → Calls Tryd.prog 52 #[.agg #[.int .i64 m, .slice A l.length c]] W (Fresh2 W nb m) := fun W hb => (colour_fresh.calls fu m A c l nb W h10 (Kd.C_below hr0_1 hb) hc0_1 hfu).mono fun e w' h => fresh2 hn.1 h
    have hcol : Col m (E l) kk (List.replicate m (-1)) 0 0 := ⟨by simp, by omega, by omega, fun j hj => by omega, fun j _ hj => by
      unfold rd; rw [Int.toNat_natCast, List.getD_eq_getElem?_getD, List.getElem?_replicate]; simp [hj], fun c => by simp [cls, apartB]⟩
    have hres : wrap64 (L.cnt nb kk m (List.replicate m (-1)) 0 0) = wrap64 (col (apartB (E l)) ((kk : Int)).toNat (2 ^ ((m : Int)).toNat - 1)) := by
      rw [cnt_is g hn hkk m 0 0 _ (by omega) hcol, Int.toNat_natCast, Int.toNat_natCast, col_cols _ m kk _ (by have := Nat.two_pow_pos m; omega)]
      congr 1
      have e1 : tests (apartB (E l)) (List.replicate m (-1)) 0 kk = List.replicate kk (apartB (E l)) := by
        refine List.ext_getElem (by rw [tests_len, List.length_replicate]) fun j h1 h2 => ?_
        simp only [tests, List.getElem_map, cls, Nat.xor_zero, List.getElem_replicate]
      rw [e1]
      congr 1
    rw [← hres]
    obtain ⟨RES, hRES⟩ : ∃ R, wrap64 (L.cnt nb kk m (List.replicate m (-1)) 0 0) = R := ⟨_, rfl⟩
    rw [hRES]
    have hcnt : ∀ bg bp bk bc pb gn lb gv vn vl W, CS W bg bp bk bc pb gn lb gv vn vl m kk nb (List.replicate m (-1)) → Calls Tryd.prog 53 #[.int .i64 0, .int .i64 0, .pointer (some ⟨bg, 0, none⟩), .pointer (some ⟨bp, 0, none⟩), .pointer (some ⟨bk, 0, none⟩), .pointer (some ⟨bc, 0, none⟩)] W (CntP nb kk m (List.replicate m (-1)) 0 0 W) := fun bg bp bk bc pb gn lb gv vn vl W hcs => cnt_calls bg bp bk bc pb gn lb gv vn vl m kk l nb g hn hkk m 0 0 (List.replicate m (-1)) W (by omega) hcol hcs
    have HCS : ∀ (w1 w2 : World) (pb : Nat) (vn vl : Value) (gn lb : Nat), Below (w.heap.size + 1 + 1) ((w.alloc (.cells #[.int .i64 m, .slice A l.length c] 24)).alloc (.cells #[.int .i64 kk] 3)) w1 → Below w1.heap.size w1 w2 → w2.heap[pb]? = some (.cells #[vn, vl] 85 (0, 0)) →
        (0 < m → ∃ cn cl, vn = .slice (some ⟨gn, 0, none⟩) m cn ∧ vl = .slice (some ⟨lb, 0, none⟩) m cl ∧ Row w2 gn 53 .u32 m nb ∧ Row w2 lb 3 .i64 m (List.replicate m (-1)) ∧ w1.heap.size ≤ lb) →
        CS ((w2.alloc (.cells #[.pointer (some ⟨pb, 0, none⟩)] 80)).alloc (.cells #[.func (.func 53) #[] #[.pointer (some ⟨w.heap.size, 0, none⟩), .pointer (some ⟨w2.heap.size, 0, none⟩), .pointer (some ⟨w.heap.size + 1, 0, none⟩), .pointer (some ⟨w2.heap.size + 1, 0, none⟩)]] 82)) w.heap.size w2.heap.size (w.heap.size + 1) (w2.heap.size + 1) pb gn lb (.slice A l.length c) vn vl m kk nb (List.replicate m (-1)) := by
      intro w1 w2 pb vn vl gn lb hb1 hb2 hpb hrows
      have hs1 := hb1.size
      simp at hs1
      have hs2 := hb2.size
      have old : ∀ {b : Nat} {o : Obj}, w2.heap[b]? = some o → ((w2.alloc (.cells #[.pointer (some ⟨pb, 0, none⟩)] 80)).alloc (.cells #[.func (.func 53) #[] #[.pointer (some ⟨w.heap.size, 0, none⟩), .pointer (some ⟨w2.heap.size, 0, none⟩), .pointer (some ⟨w.heap.size + 1, 0, none⟩), .pointer (some ⟨w2.heap.size + 1, 0, none⟩)]] 82)).heap[b]? = some o := fun h => blk_alloc (blk_alloc h _) _
      have hb12 : ∀ b, b < w.heap.size + 1 + 1 → w2.heap[b]? = ((w.alloc (.cells #[.int .i64 m, .slice A l.length c] 24)).alloc (.cells #[.int .i64 kk] 3)).heap[b]? := fun b hb => (hb2.block b (by omega)).trans (hb1.block b hb)
      refine ⟨old ((hb12 _ (by omega)).trans (blk_alloc (blk_new _ _) _)), blk_alloc (blk_new _ _) _, old ((hb12 _ (by omega)).trans ?_), ?_, old hpb, fun h0 => ?_, tab_below hT_ (below_alloc (below_alloc ((below_alloc (below_alloc (Below.refl _ _) _) _).trans ((hb1.mono (by omega)).trans (hb2.mono (by omega)))) _) _)⟩
      · have := blk_new (w.alloc (.cells #[.int .i64 m, .slice A l.length c] 24)) (.cells #[.int .i64 kk] 3); rwa [World.size_alloc] at this
      · have := blk_new (w2.alloc (.cells #[.pointer (some ⟨pb, 0, none⟩)] 80)) (.cells #[.func (.func 53) #[] #[.pointer (some ⟨w.heap.size, 0, none⟩), .pointer (some ⟨w2.heap.size, 0, none⟩), .pointer (some ⟨w.heap.size + 1, 0, none⟩), .pointer (some ⟨w2.heap.size + 1, 0, none⟩)]] 82); rwa [World.size_alloc] at this
      · obtain ⟨cn, cl, e1, e2, r1, r2, hl⟩ := hrows h0
        exact ⟨cn, cl, e1, e2, r1.move ((old r1.choose_spec.1).trans r1.choose_spec.1.symm), r2.move ((old r2.choose_spec.1).trans r2.choose_spec.1.symm), by omega⟩
    have HCS := Lib.hid HCS
    unfold CntP at hcnt
    rw [hRES] at hcnt
    clear hres hRES hfu hev hcol
    have Hcnt := Lib.hid hcnt
    clear hcnt
    go_enter Tryd.func22, Tryd.ntmps22
    go_wp2_with (first | ((go_at_call 30); refine (hchk _ ?hb).mono ?_; (case hb => exact below_alloc (below_alloc (Below.refl _ _) _) _); rintro e w1 ⟨rfl, hb1⟩; obtain ⟨hc1, hf1⟩ := bcell hb1) | ((go_at_call 52); refine (hfr _ ?hb2).mono ?_; (case hb2 => exact (below_alloc (below_alloc (Below.refl _ _) _) _).trans (hb1.mono (by simp; omega))); rintro e w2 ⟨pb, vn, vl, gn, lb, rfl, hpb0, hpb, hrows, hb2⟩; have HR := Lib.hid hrows; clear hrows) | ((go_at_call 53); refine (Hcnt.out _ _ _ _ pb gn lb (.slice A l.length c) vn vl _ ?cs).mono ?_; (case cs => exact HCS.out _ _ _ _ _ _ _ (hb1.mono (by simp)) hb2 hpb HR.out); rintro e w3 ⟨rfl, hb3⟩))
    go_ret2
    have ha : Below w.heap.size w w2 := (below_alloc (below_alloc (Below.refl _ _) _) _).trans ((hb1.mono (by simp; omega)).trans (hb2.mono (by have := hb1.size; simp at this; omega)))
    exact ⟨rfl, (below_alloc (below_alloc ha _) _).trans (hb3.mono (by have := ha.size; simp; omega))⟩
  · rw [if_pos hg] at h
    simp only [Option.some.injEq, Prod.mk.injEq] at h
    obtain ⟨rfl, rfl⟩ := h
    generalize gcheck n l = z at *
    have hz1 : (z == 0) = false := by simpa using hg
    have hz2 : (z != 0) = true := by simpa using hg
    go_enter Tryd.func22, Tryd.ntmps22
    go_wp2_with ((go_at_call 30); refine (hchk _ ?hb).mono ?_; (case hb => exact below_alloc (below_alloc (Below.refl _ _) _) _); rintro e w1 ⟨rfl, hb1⟩)
    go_ret2
    exact ⟨rfl, (below_alloc (below_alloc (Below.refl _ _) _) _).trans (hb1.mono (by simp; omega))⟩

end Go.Proofs.YtoblkmbmacimiaaDoor.G
