/- Plain: what colour.Turned comes to: the number of the ways in which the edges may be turned. -/
import Derived.Test.YtoblkmbmacimiaaDoorNear
import Derived.Test.YtoblkmbmacimiaaDoorGcolourTurned
namespace Go.Proofs.YtoblkmbmacimiaaDoor.L
open Go Go.RowKit Go.Proofs.YtoblkmbmacimiaaDoor.B Go.Proofs.YtoblkmbmacimiaaDoorW.PrintWords Go.Proofs.YtoblkmbmacimiaaDoorW.PrintMore Go.Proofs.YtoblkmbmacimiaaDoor.G

theorem pc_parity : ∀ x, x < 1024 → B.pc x % 2 = bcK 10 x % 2 := by decide +kernel
theorem odd_sgn {x : Nat} (h : x < 1024) (ho : Int.tmod (B.pc x : Int) 2 = 1) : sgn 10 x = -1 := by
  have := pc_parity x h
  have h2 : (B.pc x : Int) % 2 = 1 := by rw [Int.tmod_eq_emod_of_nonneg (by omega)] at ho; exact ho
  unfold sgn; rw [if_neg (by omega)]
theorem even_sgn {x : Nat} (h : x < 1024) (ho : ¬ Int.tmod (B.pc x : Int) 2 = 1) : sgn 10 x = 1 := by
  have := pc_parity x h
  have h2 : ¬ (B.pc x : Int) % 2 = 1 := by rw [Int.tmod_eq_emod_of_nonneg (by omega)] at ho; exact ho
  unfold sgn; rw [if_pos (by omega)]

/-- One part of the signed recursion. -/
noncomputable def term (es : List (Nat × Nat)) (w r : Nat) : Int := if Sub r w ∧ r ≠ 0 ∧ apartB es r = true then sgn 10 r * turns es [] (w ^^^ r) else 0

theorem wrap_add (a b : Int) : wrap64 (wrap64 a + wrap64 b) = wrap64 (a + b) := by unfold wrap64; omega
theorem wrap_sub (a b : Int) : wrap64 (wrap64 a - wrap64 b) = wrap64 (a - b) := by unfold wrap64; omega
theorem wrap_zero : wrap64 0 = 0 := by unfold wrap64; omega
theorem wrap_one : wrap64 1 = 1 := by unfold wrap64; omega

structure MI (n : Nat) (es : List (Nat × Nat)) (w : Nat) (many : List Int) : Prop where
  len : many.length = 2 ^ n
  low : ∀ v, v < w → rd many (v : Int) = wrap64 (turns es [] v)
  high : ∀ v, w ≤ v → v < 2 ^ n → rd many (v : Int) = 0

theorem turned_l1 {n : Nat} {l : List S57} (g : Good n l) {nb : List Int} (hn : NearI n l nb) {w : Nat} (hw : w < 2 ^ n) (R : Int × Int)
    (next : ∀ many', MI n (E l) (w + 1) many' → Ev (fun k => colour_Turned.l0 k nb many' ((w + 1 : Nat) : Int) (n : Int) l) R) :
    ∀ s, Sub s w → ∀ many c, many.length = 2 ^ n → (∀ v, v < w → rd many (v : Int) = wrap64 (turns (E l) [] v)) → rd many (w : Int) = wrap64 c → (∀ v, w < v → v < 2 ^ n → rd many (v : Int) = 0) → c - sumR (s + 1) (term (E l) w) = turns (E l) [] w →
      Ev (fun k => colour_Turned.l1 k nb many (w : Int) (s : Int) (n : Int) l) R := by
  have h10 := g.n10
  have hp : 2 ^ n ≤ 2 ^ 10 := Nat.pow_le_pow_right (by decide) h10
  intro s
  induction s using Nat.strongRecOn with
  | _ s ih =>
    intro hs many c hlen hlow hat hhigh hc
    have hsw := hs.le
    by_cases h0 : s = 0
    · subst h0
      have hz : sumR (0 + 1) (term (E l) w) = 0 := by simp [sumR, term]
      rw [hz, Int.sub_zero] at hc
      refine Ev.step (fun k => ?_) (next many ⟨hlen, fun v hv => ?_, fun v hv => hhigh v (by omega)⟩)
      · conv => lhs; rw [colour_Turned.l1]
        rw [if_pos (by omega), show (((w : Int) + 1) % 4294967296) = ((w + 1 : Nat) : Int) by omega]
      · by_cases e : v = w
        · subst e; rw [hat, hc]
        · exact hlow v (by omega)
    · obtain ⟨x1, x2, x3⟩ := next_sub hs h0 (by omega)
      have hlt := diff_lt hs h0
      have hd : bits .andNot .u32 (w : Int) (s : Int) = ((w ^^^ s : Nat) : Int) := andNot_u32 w s (by omega) (by omega) hs
      have ha : bits .and .u32 (((s : Int) - 1) % 4294967296) (w : Int) = (((s - 1) &&& w : Nat) : Int) := by
        rw [show (((s : Int) - 1) % 4294967296) = ((s - 1 : Nat) : Int) by omega, B.and_u32 _ _ (by omega) (by omega)]
      have hsum : sumR (s + 1) (term (E l) w) = sumR (((s - 1) &&& w) + 1) (term (E l) w) + term (E l) w s := by
        show sumR s (term (E l) w) + _ = _
        rw [sumR_le (n := ((s - 1) &&& w) + 1) (m := s) (f := term (E l) w) (by omega) fun i h1 h2 => if_neg fun (hh : Sub i w ∧ i ≠ 0 ∧ apartB (E l) i = true) => by have := x3 i hh.1 h2; omega]
      have hat' : rd many ((w ^^^ s : Nat) : Int) = wrap64 (turns (E l) [] (w ^^^ s)) := hlow _ hlt
      have put : ∀ x : Int, (many.set w x).length = 2 ^ n ∧ (∀ v, v < w → rd (many.set w x) (v : Int) = wrap64 (turns (E l) [] v)) ∧ rd (many.set w x) (w : Int) = x ∧ (∀ v, w < v → v < 2 ^ n → rd (many.set w x) (v : Int) = 0) := fun x =>
        ⟨by rw [List.length_set, hlen], fun v hv => by rw [rd_set _ _ _ _ (by omega), if_neg (by omega)]; exact hlow v hv, by rw [rd_set _ _ _ _ (by omega), if_pos rfl], fun v h1 h2 => by rw [rd_set _ _ _ _ (by omega), if_neg (by omega)]; exact hhigh v h1 h2⟩
      by_cases hq : apartB (E l) s = true
      · have ht : term (E l) w s = sgn 10 s * turns (E l) [] (w ^^^ s) := if_pos ⟨hs, h0, hq⟩
        have hoc : bits_OnesCount32.f (s : Int) = some (B.pc s : Int) := by unfold bits_OnesCount32.f; rw [if_pos (by omega), Int.toNat_natCast]
        by_cases ho : Int.tmod (B.pc s : Int) 2 = 1
        · have hg := odd_sgn (by omega) ho
          obtain ⟨p1, p2, p3, p4⟩ := put (wrap64 (wrap64 c + wrap64 (turns (E l) [] (w ^^^ s))))
          replace p3 := p3.trans (wrap_add _ _)
          refine Ev.step (fun k => ?_) (ih _ x2 x1 _ (c + turns (E l) [] (w ^^^ s)) p1 p2 p3 p4 (by rw [← hc, hsum, ht, hg]; omega))
          conv => lhs; rw [colour_Turned.l1]
          rw [if_neg (by omega), apart_is g hn (by omega), hq]
          simp only [Option.bind_some, if_true, hoc]
          rw [if_pos ho, if_pos (by omega), if_pos (by omega), hd, if_pos (by omega), if_pos (by omega), ha, hat, hat', Int.toNat_natCast]
        · have hg := even_sgn (by omega) ho
          obtain ⟨p1, p2, p3, p4⟩ := put (wrap64 (wrap64 c - wrap64 (turns (E l) [] (w ^^^ s))))
          replace p3 := p3.trans (wrap_sub _ _)
          refine Ev.step (fun k => ?_) (ih _ x2 x1 _ (c - turns (E l) [] (w ^^^ s)) p1 p2 p3 p4 (by rw [← hc, hsum, ht, hg]; omega))
          conv => lhs; rw [colour_Turned.l1]
          rw [if_neg (by omega), apart_is g hn (by omega), hq]
          simp only [Option.bind_some, if_true, hoc]
          rw [if_neg ho, if_pos (by omega), if_pos (by omega), hd, if_pos (by omega), if_pos (by omega), ha, hat, hat', Int.toNat_natCast]
      · have ht : term (E l) w s = 0 := if_neg fun hh => hq hh.2.2
        refine Ev.step (fun k => ?_) (ih _ x2 x1 many c hlen hlow hat hhigh (by rw [← hc, hsum, ht]; omega))
        conv => lhs; rw [colour_Turned.l1]
        rw [if_neg (by omega), apart_is g hn (by omega), Bool.eq_false_iff.2 hq]
        simp only [Option.bind_some]
        rw [if_neg (by simp), ha]

theorem turned_l0 {n : Nat} {l : List S57} (g : Good n l) {nb : List Int} (hn : NearI n l nb) :
    ∀ d w, w + d = 2 ^ n → 0 < w → ∀ many, MI n (E l) w many → Ev (fun k => colour_Turned.l0 k nb many (w : Int) (n : Int) l) (wrap64 (turns (E l) [] (2 ^ n - 1)), 0) := by
  have h10 := g.n10
  have hp : 2 ^ n ≤ 2 ^ 10 := Nat.pow_le_pow_right (by decide) h10
  have h1 := Nat.two_pow_pos n
  intro d
  induction d with
  | zero =>
    intro w hw hpos many hm
    obtain rfl : w = 2 ^ n := by omega
    refine Ev.step (g := fun _ => some (wrap64 (turns (E l) [] (2 ^ n - 1)), 0)) (fun k => ?_) (.const _)
    have hlen := hm.len
    rw [colour_Turned.l0, if_pos (by omega), shl_one .u32 n (by omega) (.inl rfl), if_neg (by omega), shl_one .i64 n (by omega) (.inr rfl), show wrap64 (((2 ^ n : Nat) : Int) - 1) = ((2 ^ n - 1 : Nat) : Int) by rw [w64 (by omega) (by omega)]; omega, if_pos (by omega), if_pos (by omega), hm.low _ (by omega)]
  | succ d ih =>
    intro w hw hpos many hm
    have hlt : w < 2 ^ n := by omega
    refine Ev.step (fun k => ?_) (turned_l1 g hn hlt _ (fun many' hm' => ih (w + 1) (by omega) (by omega) many' hm') w (sub_refl w) many 0 hm.len hm.low (by rw [hm.high w (Nat.le_refl _) hlt, wrap_zero]) (fun v a b => hm.high v (by omega) b) ?_)
    · conv => lhs; rw [colour_Turned.l0]
      rw [if_pos (by omega), shl_one .u32 n (by omega) (.inl rfl), if_pos (by omega)]
    · rw [turns_step 10 (E l) (apartB (E l)) (apartB_iff (E l)) w (by omega) (by omega)]
      unfold term
      omega

theorem turned_is {n : Nat} {l : List S57} (g : Good n l) (hc : gcheck (n : Int) l = 0) : Ev (fun k => colour_Turned.f k (n : Int) l) (wrap64 (turns (E l) [] (2 ^ n - 1)), 0) := by
  have h10 := g.n10
  have hp : 2 ^ n ≤ 2 ^ 10 := Nat.pow_le_pow_right (by decide) h10
  have h1 := Nat.two_pow_pos n
  obtain ⟨nb, hn, hev⟩ := near_is g
  unfold colour_Turned.f graph_Check.f
  rw [hc]
  simp only [Option.bind_some, if_pos]
  refine Ev.bind hev ?_
  have L := turned_l0 g hn (2 ^ n - 1) 1 (by omega) (by omega) ((List.replicate (2 ^ n) 0).set 0 1) ⟨by simp, fun v hv => by
      obtain rfl : v = 0 := by omega
      rw [rd_set _ _ _ _ (by simp; omega), if_pos rfl, turns_zero, wrap_one], fun v h1 h2 => by
      rw [rd_set _ _ _ _ (by simp; omega), if_neg (by omega)]
      unfold rd
      rw [Int.toNat_natCast, List.getD_eq_getElem?_getD, List.getElem?_replicate]; simp [h2]⟩
  refine Ev.congr (fun k => ?_) L
  rw [shl_one .i64 n (by omega) (.inr rfl), if_pos (by omega), if_pos (by omega), if_pos (by omega)]
  rw [Int.toNat_natCast, List.length_replicate, if_pos (by omega)]
  rfl

end Go.Proofs.YtoblkmbmacimiaaDoor.L
