/- The walk of maps.Check. -/
import Derived.Test.YtoblkmbmacimiaaDoorCollect
import Derived.Test.YtoblkmbmacimiaaDoorGslicesEqualintint
import Derived.Test.YtoblkmbmacimiaaDoorNear
namespace Go.Proofs.YtoblkmbmacimiaaDoor.L
open Go Go.RowKit Go.Proofs.YtoblkmbmacimiaaDoor.B Go.Proofs.YtoblkmbmacimiaaDoorW.PrintWords Go.Proofs.YtoblkmbmacimiaaDoorW.PrintMore Go.Proofs.YtoblkmbmacimiaaDoor.G

/-- The word of a node's neighbours. -/
def nbword (es : List (Nat × Nat)) (v : Nat) : Nat := es.foldr (fun e acc => acc ||| (if e.1 = v then 2 ^ e.2 else 0) ||| (if e.2 = v then 2 ^ e.1 else 0)) 0
theorem nbword_bit (v : Nat) : ∀ (es : List (Nat × Nat)) (j : Nat), (nbword es v).testBit j = true ↔ nbr es v j := by
  intro es
  induction es with
  | nil => intro j; simp [nbword, nbr]
  | cons e es ih =>
    intro j
    have hs : nbword (e :: es) v = nbword es v ||| (if e.1 = v then 2 ^ e.2 else 0) ||| (if e.2 = v then 2 ^ e.1 else 0) := rfl
    have hb : ∀ (p : Prop) [Decidable p] (k : Nat), ((if p then 2 ^ k else 0 : Nat)).testBit j = true ↔ p ∧ k = j := fun p _ k => by
      by_cases h : p
      · rw [if_pos h, Nat.testBit_two_pow, decide_eq_true_eq]; simp [h]
      · rw [if_neg h]; simp [h]
    rw [hs, Nat.testBit_or, Nat.testBit_or, Bool.or_eq_true, Bool.or_eq_true, ih, hb, hb]
    unfold nbr
    constructor
    · rintro ((⟨f, hf, h⟩ | ⟨h1, h2⟩) | ⟨h1, h2⟩)
      · exact ⟨f, List.mem_cons_of_mem _ hf, h⟩
      · exact ⟨e, List.mem_cons_self, .inl ⟨h1, h2⟩⟩
      · exact ⟨e, List.mem_cons_self, .inr ⟨h2, h1⟩⟩
    · rintro ⟨f, hf, h⟩
      rcases List.mem_cons.1 hf with rfl | hf
      · rcases h with h | h
        · exact .inl (.inr h)
        · exact .inr ⟨h.2, h.1⟩
      · exact .inl (.inl ⟨f, hf, h⟩)
theorem nbword_is {n : Nat} {l : List S57} {nb : List Int} (hn : NearI n l nb) {i : Nat} (hi : i < n) : rd nb (i : Int) = (nbword (E l) i : Int) ∧ nbword (E l) i < 4294967296 := by
  obtain ⟨x, h1, h2, h3⟩ := hn.2 i hi
  have e : x = nbword (E l) i := Nat.eq_of_testBit_eq fun j => by rw [Bool.eq_iff_iff, h3, nbword_bit]
  rw [← e]; exact ⟨h1, h2⟩

def srt (l : List Int) : List Int := l.mergeSort fun x y => decide (x ≤ y)
/-- Is a round's list right? -/
def roundB (es : List (Nat × Nat)) (round : List (List Int)) (i : Nat) : Bool := decide (srt (rd_L4 round (i : Int)) = ints (bitsOf (nbword es i)))

theorem equal_l0 (a b : List Int) (hl : a.length < 4611686018427387904) (he : a.length = b.length) : ∀ d i, i + d = a.length → Ev (fun k => slices_Equal_int_int.l0 k a b (a.length : Int) (i : Int)) (decide (a.drop i = b.drop i)) := by
  intro d
  induction d with
  | zero =>
    intro i hi
    rw [List.drop_eq_nil_of_le (by omega), List.drop_eq_nil_of_le (by omega)]
    refine Ev.step (g := fun _ => some true) (fun k => ?_) (.const _)
    rw [slices_Equal_int_int.l0, if_neg (by omega)]
  | succ d ih =>
    intro i hi
    have hw : wrap64 ((i : Int) + 1) = ((i + 1 : Nat) : Int) := by rw [w64 (by omega) (by omega)]; omega
    have r1 : rd a (i : Int) = a[i]'(by omega) := by unfold rd; rw [Int.toNat_natCast, List.getD_eq_getElem?_getD, List.getElem?_eq_getElem (by omega)]; rfl
    have r2 : rd b (i : Int) = b[i]'(by omega) := by unfold rd; rw [Int.toNat_natCast, List.getD_eq_getElem?_getD, List.getElem?_eq_getElem (by omega)]; rfl
    have hd : decide (a.drop i = b.drop i) = (decide (rd a (i : Int) = rd b (i : Int)) && decide (a.drop (i + 1) = b.drop (i + 1))) := by
      rw [Bool.eq_iff_iff, Bool.and_eq_true, decide_eq_true_eq, decide_eq_true_eq, decide_eq_true_eq, List.drop_eq_getElem_cons (show i < a.length by omega), List.drop_eq_getElem_cons (show i < b.length by omega), r1, r2, List.cons.injEq]
    rw [hd]
    by_cases h : rd a (i : Int) = rd b (i : Int)
    · rw [decide_eq_true h, Bool.true_and]
      refine Ev.step (fun k => ?_) (ih (i + 1) (by omega))
      conv => lhs; rw [slices_Equal_int_int.l0]
      rw [if_pos (by omega), if_pos (by omega), if_pos (by omega), if_pos (by omega), if_pos h, hw]
    · rw [decide_eq_false h, Bool.false_and]
      refine Ev.step (g := fun _ => some false) (fun k => ?_) (.const _)
      rw [slices_Equal_int_int.l0, if_pos (by omega), if_pos (by omega), if_pos (by omega), if_pos (by omega), if_neg h]
theorem equal_is (a b : List Int) (hl : a.length < 4611686018427387904) : ∃ k, slices_Equal_int_int.f k a b = some (decide (a = b)) := by
  by_cases he : a.length = b.length
  · obtain ⟨k, hk⟩ := (equal_l0 a b hl he a.length 0 (by omega)).get
    refine ⟨k, ?_⟩
    unfold slices_Equal_int_int.f
    rw [if_pos (by omega)]
    simpa using hk
  · refine ⟨0, ?_⟩
    unfold slices_Equal_int_int.f
    rw [if_neg (by omega), decide_eq_false fun h => he (by rw [h])]

end Go.Proofs.YtoblkmbmacimiaaDoor.L
namespace Go.Proofs.YtoblkmbmacimiaaDoor.G
open Go.RowKit Go.Shelf Go.Proofs.YtoblkmbmacimiaaDoorW.PrintWords Go.Proofs.YtoblkmbmacimiaaDoorW.PrintLast Go.Proofs.YtoblkmbmacimiaaDoorW.PrintMore
open Go.Proofs.YtoblkmbmacimiaaDoor.B Go.Proofs.YtoblkmbmacimiaaDoor.L
attribute [local go_sem] Oper.semAt_some

theorem sorted_srt (Bw : Nat) (A : Option Addr) (c : Nat) (xs : List Int) (w : World) (hb : w.heap[Bw]? = some (.cells #[.slice A xs.length c] 32 (0, 0))) (hC : (Kd.int .i64).C w A xs.length xs) (hl : xs.length * 8 ≤ 140737488355328) :
    Calls Tryd.prog 56 #[.func (.func 74) #[] #[.pointer (some ⟨Bw, 0, none⟩)]] w fun e w' => ∃ v, e = .returned v ∧ (Kd.int .i64).R 3 w' w.heap.size (fun _ => True) v (srt xs) ∧ Below w.heap.size w w' := sorted_values.calls Bw A c xs w hb hC hl

def maps_Check.f (n : Int) (l : List S57) (round : List (List Int)) : Option Int :=
  if gcheck n l ≠ 0 then some (gcheck n l) else if (round.length : Int) ≠ n then some 3
  else if ∀ r ∈ round, r.length * 8 ≤ 140737488355328 then some (if (List.range n.toNat).all (roundB (E l) round) = true then 0 else 3) else none

theorem bcells {W w1 : World} (hb : Below W.heap.size W w1) : (∀ b o, b < W.heap.size → w1.cell? ⟨b, o, none⟩ = W.cell? ⟨b, o, none⟩) ∧ (∀ b o, b < W.heap.size → w1.frozen? ⟨b, o, none⟩ = W.frozen? ⟨b, o, none⟩) :=
  ⟨fun b o h => hb.cell (p := ⟨b, o, none⟩) h, fun b o h => hb.frozen (p := ⟨b, o, none⟩) h⟩

set_option maxHeartbeats 4000000 in
set_option maxRecDepth 100000 in
theorem maps_Check.calls (n : Int) (A : Option Addr) (c : Nat) (l : List S57) (Ar : Option Addr) (cr : Nat) (round : List (List Int)) (r : Int) (w : World) (hr0_1 : Kd.C k57 w A l.length l) (hc0_1 : l.length ≤ c) (hr1 : Kd.C (Kd.slice 3 (Kd.int .i64)) w Ar round.length round) (hc1 : round.length ≤ cr) (h : maps_Check.f n l round = some r) (hT_ : Go.Proofs.YtoblkmbmacimiaaDoor.B.Tab w := by first | assumption | exact HT_.out | exact Go.Proofs.YtoblkmbmacimiaaDoor.B.tab_below HT_.out (by repeat (first | (with_reducible first | exact HB.out | apply below_alloc | apply pw_below_drewN | apply below_drew1 | refine below_set ?_ (Aside0.out (by assumption))) | exact HB.out))) :
    Calls Tryd.prog 23 #[.agg #[.int .i64 n, .slice A l.length c], .slice Ar round.length cr] w fun e w' => e = .returned (.int .i64 r) ∧ Below w.heap.size w w' := by
  have hchk : ∀ W, Below w.heap.size w W → Calls Tryd.prog 30 #[.agg #[.int .i64 n, .slice A l.length c]] W fun e w' => e = .returned (.int .i64 (gcheck n l)) ∧ Below W.heap.size W w' := fun W hb => graph_Check.calls n A c l (gcheck n l) W (Kd.C_below hr0_1 hb) hc0_1 rfl
  unfold maps_Check.f at h
  by_cases hg : gcheck n l = 0
  · rw [if_neg (fun h => h hg)] at h
    rw [hg] at hchk
    by_cases hrl : (round.length : Int) ≠ n
    · rw [if_pos hrl] at h
      cases h
      have hz2 : ((round.length : Int) != n) = true := by simpa using hrl
      go_enter Tryd.func23, Tryd.ntmps23
      go_wp2_with ((go_at_call 30); refine (hchk _ ?hb).mono ?_; (case hb => exact below_alloc (Below.refl _ _) _); rintro e w1 ⟨rfl, hb1⟩; obtain ⟨hc1, hf1⟩ := bcells hb1)
      go_ret
      exact ⟨rfl, (below_alloc (Below.refl _ _) _).trans (hb1.mono (by simp))⟩
    · rw [if_neg hrl] at h
      have hrn : (round.length : Int) = n := by omega
      split at h
      case isFalse => cases h
      rename_i hlen
      simp only [Option.some.injEq] at h
      obtain ⟨m, rfl, g⟩ := good_of hg
      clear hg hrl
      have hrm : round.length = m := by omega
      rw [Int.toNat_natCast] at h
      obtain ⟨nb, hn, hev⟩ := near_is g
      obtain ⟨fu, hfu⟩ := hev.get
      have h10 := g.n10
      have hnear : ∀ W, Below w.heap.size w W → Calls Tryd.prog 31 #[.agg #[.int .i64 m, .slice A l.length c]] W fun e w' => ∃ v0_ : Value, e = .returned (v0_) ∧ Kd.R (Kd.int .u32) 53 w' w.heap.size (fun _ => True) v0_ nb ∧ Below W.heap.size W w' := fun W hb =>
        (graph_Near.calls fu m A c l nb W (Kd.C_below hr0_1 hb) hc0_1 hfu).mono fun e w' ⟨v, h1, h2, h3⟩ => ⟨v, h1, Kd.R_lower h2 hb.size, h3⟩
      have hlm : ((round.length : Int) != (m : Int)) = false := by simpa using hrn
      have hnl := hn.1
      have Hrm := Lib.hid hrm
      have Hn := Lib.hid hn
      have Hlen := Lib.hid hlen
      have H := Lib.hid h
      have Hnl := Lib.hid hnl
      have HT0 := Lib.hid hT_
      clear h hlen hn hrm hfu hev hrn hnl hT_
      go_enter Tryd.func23, Tryd.ntmps23
      go_wp2_with (first | ((go_at_call 30); refine (hchk _ ?hb).mono ?_; (case hb => exact below_alloc (Below.refl _ _) _); rintro e w1 ⟨rfl, hb1⟩; obtain ⟨hc1, hf1⟩ := bcells hb1) | ((go_at_call 31); refine (hnear _ ?hb).mono ?_; (case hb => exact (below_alloc (Below.refl _ _) _).trans (hb1.mono (by simp))); rintro e w2 ⟨v, rfl, hR, hb2⟩; obtain ⟨An, cn, hv⟩ := Kd.R_slice hR; rw [Hnl.out] at hv; subst hv; have HR := Lib.hid hR; clear hR))
      have hbase : Below w.heap.size w w2 := (below_alloc (Below.refl _ _) _).trans ((hb1.mono (by simp)).trans (hb2.mono (by have := hb1.size; simp at this; omega)))
      have HBA := Lib.hid hbase
      clear hb1 hb2 hc1 hf1 hnear hchk hbase
      go_loopw [21] (fun v21 wr => ∃ i : Nat, v21 = .int .i64 i ∧ i ≤ m ∧ Hid ((List.range i).all (roundB (E l) round) = true) ∧ Hid (Below w2.heap.size w2 wr)) (fun v21 _ => m - (intOf v21).toNat)
      case atStart => exact ⟨0, rfl, Nat.zero_le _, Lib.hid (by simp), Lib.hid (Below.refl _ _)⟩
      case round =>
        obtain ⟨i, rfl, him, hall, hB⟩ := hrel
        have hbw : Below w.heap.size w wr := HBA.out.trans (hB.out.mono HBA.out.size)
        by_cases hlt : i < m
        · obtain ⟨hx1, hx2⟩ := nbword_is Hn.out hlt
          have hCn := Kd.C_below (Kd.R_reads' HR.out).2.2 hB.out
          rw [Hnl.out] at hCn
          obtain ⟨adn, rfl, hxn⟩ := Kd.at_int hCn (i : Int) (by omega) (by omega)
          rw [Int.toNat_natCast, hx1] at hxn
          obtain ⟨adr, A0, c0, rfl, hxr, hl0, hC0⟩ := at_L4 (Kd.C_below hr1 hbw) (i : Int) (by omega) (by have := Hrm.out; omega)
          rw [Int.toNat_natCast] at hxr
          have hxs : (rd_L4 round (i : Int)).length * 8 ≤ 140737488355328 := by
            refine Hlen.out _ ?_
            unfold rd_L4
            rw [Int.toNat_natCast, List.getD_eq_getElem?_getD, List.getElem?_eq_getElem (by have := Hrm.out; omega)]
            exact List.getElem_mem _
          obtain ⟨ke, hke⟩ := equal_is (srt (rd_L4 round (i : Int))) (ints (bitsOf (nbword (E l) i))) (by have := List.length_mergeSort (le := fun x y : Int => decide (x ≤ y)) (rd_L4 round (i : Int)); unfold srt; omega)
          have hrb : decide (srt (rd_L4 round (i : Int)) = ints (bitsOf (nbword (E l) i))) = roundB (E l) round i := rfl
          rw [hrb] at hke
          have hi0 : (0 : Int) ≤ (i : Int) := by omega
          have hi1 : (i : Int) < (m : Int) := by omega
          have hi2 : (i : Int) < (round.length : Int) := by have := Hrm.out; omega
          have hTw := tab_below HT0.out hbw
          generalize nbword (E l) i = x at *
          generalize rd_L4 round (i : Int) = xs at *
          have HC0 := Lib.hid (Kd.C_below hC0 (below_alloc (Below.refl _ _) (.cells #[.slice A0 xs.length c0] 32)))
          have Hxs := Lib.hid hxs
          have Hx2 := Lib.hid hx2
          have HTw := Lib.hid hTw
          have Hbw := Lib.hid hbw
          clear hC0 hxs hx1 hx2 hTw hCn hbw
          by_cases hq : roundB (E l) round i = true
          · rw [hq] at hke
            have Hke := Lib.hid hke
            have hall' := Lib.hid (show (List.range (i + 1)).all (roundB (E l) round) = true by rw [List.range_succ, List.all_append, hall.out]; simp [hq])
            clear hke hq hrb
            go_wp2_with (first
              | ((go_at_call 57); refine (values_calls A0 xs.length c0 _).mono ?_; rintro e w3 ⟨rfl, rfl⟩)
              | ((go_at_call 56); ((with_reducible refine (sorted_srt _ A0 c0 xs _ ?h1 ?h2 ?h3).mono ?_); (case h1 => exact blk_new _ _); (case h2 => exact HC0.out); (case h3 => exact Hxs.out)); rintro e w3 ⟨v3, rfl, hR3, hb3⟩; obtain ⟨A3, c3, hv3⟩ := Kd.R_slice hR3; subst hv3; have HR3 := Lib.hid hR3; have HB3 := Lib.hid ((below_alloc (Below.refl wr.heap.size wr) _).trans (hb3.mono (by simp))); clear hR3 hb3)
              | ((go_at_call 37); refine (each_calls x _).mono ?_; rintro e w' ⟨rfl, rfl⟩)
              | ((go_at_call 43); ((with_reducible refine (collect_each.calls _ x _ ?h4 ?h5 ?h6).mono ?_); (case h4 => exact blk_new _ _); (case h5 => exact Hx2.out); (case h6 => exact tab_below HTw.out (below_alloc HB3.out _))); rintro e w4 ⟨v4, rfl, hR4, hg4⟩; obtain ⟨A4, c4, hv4⟩ := Kd.R_slice hR4; subst hv4; have HB4 := Lib.hid ((below_alloc HB3.out _).grown hg4 (by have := HB3.out.size; simp; omega) (fun k e => by injection e with e; have := HB3.out.size; omega)); have HC3 := Lib.hid (Kd.R_reads' (Kd.R_grown (Kd.R_alloc (Kd.R_bound HR3.out) _) hg4 (fun k hk e => by have := hk.2.2.1; injection e with e; omega))); have HC4 := Lib.hid (Kd.R_reads' hR4); clear hR4 hg4)
              | ((go_at_call 55); ((with_reducible refine (slices_Equal_int_int.calls ke _ _ (srt xs) _ _ (ints (bitsOf x)) true w4 ?k1 ?k2 ?k3 ?k4 ?k5).mono ?_); (case k1 => exact HC3.out.2.2); (case k2 => exact HC3.out.2.1); (case k3 => exact HC4.out.2.2); (case k4 => exact HC4.out.2.1); (case k5 => exact Hke.out)); rintro e w5 ⟨rfl, hd5⟩; obtain ⟨nd, rfl⟩ := hd5))
            go_roundw
            case rel => exact ⟨i + 1, by go_num, by omega, hall', Lib.hid (hB.out.trans (((HB4.out).trans (pw_below_drewN (Below.refl _ _) nd)).mono hB.out.size))⟩
            case measure => simp [intOf]; omega
          · rw [Bool.eq_false_iff.2 hq] at hke
            have Hke := Lib.hid hke
            have hr3 : (if (List.range m).all (roundB (E l) round) = true then (0 : Int) else 3) = 3 := by
              rw [if_neg]
              intro hh
              exact hq (List.all_eq_true.1 hh i (List.mem_range.2 hlt))
            have Hr := Lib.hid (hr3.symm.trans H.out)
            clear hke hq hrb hr3
            go_wp2_with (first
              | ((go_at_call 57); refine (values_calls A0 xs.length c0 _).mono ?_; rintro e w3 ⟨rfl, rfl⟩)
              | ((go_at_call 56); ((with_reducible refine (sorted_srt _ A0 c0 xs _ ?h1 ?h2 ?h3).mono ?_); (case h1 => exact blk_new _ _); (case h2 => exact HC0.out); (case h3 => exact Hxs.out)); rintro e w3 ⟨v3, rfl, hR3, hb3⟩; obtain ⟨A3, c3, hv3⟩ := Kd.R_slice hR3; subst hv3; have HR3 := Lib.hid hR3; have HB3 := Lib.hid ((below_alloc (Below.refl wr.heap.size wr) _).trans (hb3.mono (by simp))); clear hR3 hb3)
              | ((go_at_call 37); refine (each_calls x _).mono ?_; rintro e w' ⟨rfl, rfl⟩)
              | ((go_at_call 43); ((with_reducible refine (collect_each.calls _ x _ ?h4 ?h5 ?h6).mono ?_); (case h4 => exact blk_new _ _); (case h5 => exact Hx2.out); (case h6 => exact tab_below HTw.out (below_alloc HB3.out _))); rintro e w4 ⟨v4, rfl, hR4, hg4⟩; obtain ⟨A4, c4, hv4⟩ := Kd.R_slice hR4; subst hv4; have HB4 := Lib.hid ((below_alloc HB3.out _).grown hg4 (by have := HB3.out.size; simp; omega) (fun k e => by injection e with e; have := HB3.out.size; omega)); have HC3 := Lib.hid (Kd.R_reads' (Kd.R_grown (Kd.R_alloc (Kd.R_bound HR3.out) _) hg4 (fun k hk e => by have := hk.2.2.1; injection e with e; omega))); have HC4 := Lib.hid (Kd.R_reads' hR4); clear hR4 hg4)
              | ((go_at_call 55); ((with_reducible refine (slices_Equal_int_int.calls ke _ _ (srt xs) _ _ (ints (bitsOf x)) false w4 ?k1 ?k2 ?k3 ?k4 ?k5).mono ?_); (case k1 => exact HC3.out.2.2); (case k2 => exact HC3.out.2.1); (case k3 => exact HC4.out.2.2); (case k4 => exact HC4.out.2.1); (case k5 => exact Hke.out)); rintro e w5 ⟨rfl, hd5⟩; obtain ⟨nd, rfl⟩ := hd5))
            go_ret
            exact ⟨by rw [← Hr.out]; rfl, Hbw.out.trans (((HB4.out).trans (pw_below_drewN (Below.refl _ _) nd)).mono Hbw.out.size)⟩
        · obtain rfl : i = m := by omega
          have hr0 := H.out
          rw [if_pos hall.out] at hr0
          have Hr := Lib.hid hr0
          clear hr0
          go_wp2
          go_ret
          exact ⟨by rw [← Hr.out]; rfl, hbw⟩
  · rw [if_pos hg] at h
    simp only [Option.some.injEq] at h
    subst h
    generalize gcheck n l = z at *
    have hz1 : (z == 0) = false := by simpa using hg
    have hz2 : (z != 0) = true := by simpa using hg
    go_enter Tryd.func23, Tryd.ntmps23
    go_wp2_with ((go_at_call 30); refine (hchk _ ?hb).mono ?_; (case hb => exact below_alloc (Below.refl _ _) _); rintro e w1 ⟨rfl, hb1⟩)
    go_ret
    exact ⟨rfl, (below_alloc (Below.refl _ _) _).trans (hb1.mono (by simp))⟩

end Go.Proofs.YtoblkmbmacimiaaDoor.G
