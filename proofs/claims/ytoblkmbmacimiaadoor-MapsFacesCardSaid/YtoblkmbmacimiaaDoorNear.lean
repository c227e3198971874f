/- Plain: the words of neighbours; when no two members of a word have an edge, asked in two ways. -/
import Derived.Test.YtoblkmbmacimiaaDoorEv
import Derived.Test.YtoblkmbmacimiaaDoorTurns
namespace Go.Proofs.YtoblkmbmacimiaaDoor.L
open Go Go.RowKit Go.Proofs.YtoblkmbmacimiaaDoor.B Go.Proofs.YtoblkmbmacimiaaDoorW.PrintWords Go.Proofs.YtoblkmbmacimiaaDoorW.PrintMore Go.Proofs.YtoblkmbmacimiaaDoor.G

theorem rd_set (xs : List Int) (a v : Nat) (x : Int) (h : a < xs.length) : rd (xs.set a x) (v : Int) = if a = v then x else rd xs (v : Int) := by
  unfold rd
  rw [Int.toNat_natCast, List.getD_eq_getElem?_getD, List.getD_eq_getElem?_getD, List.getElem?_set]
  by_cases e : a = v
  · rw [if_pos e, if_pos h, if_pos e]; rfl
  · rw [if_neg e, if_neg e]

/-- A word of a list, with its members. -/
def HasW (nb : List Int) (v : Nat) (S : Nat → Prop) : Prop := ∃ x : Nat, rd nb (v : Int) = x ∧ x < 4294967296 ∧ ∀ j, x.testBit j = true ↔ S j
def nbr (es : List (Nat × Nat)) (v j : Nat) : Prop := ∃ e ∈ es, e.1 = v ∧ e.2 = j ∨ e.1 = j ∧ e.2 = v
def NearI (n : Nat) (l : List S57) (nb : List Int) : Prop := nb.length = n ∧ ∀ v, v < n → HasW nb v (nbr (E l) v)

theorem HasW.put {nb : List Int} {n a b : Nat} {S : Nat → Nat → Prop} (hn : nb.length = n) (h10 : n ≤ 10) (ha : a < n) (hb : b < n) (h : ∀ v, v < n → HasW nb v (S v)) :
    (nb.set a (bits .or .u32 (rd nb (a : Int)) (shl .u32 1 (b : Int)))).length = n ∧ ∀ v, v < n → HasW (nb.set a (bits .or .u32 (rd nb (a : Int)) (shl .u32 1 (b : Int)))) v (fun j => S v j ∨ a = v ∧ b = j) := by
  refine ⟨by rw [List.length_set, hn], fun v hv => ?_⟩
  obtain ⟨x, hx, hl, hS⟩ := h v hv
  unfold HasW
  rw [rd_set _ _ _ _ (by omega)]
  by_cases e : a = v
  · subst e
    rw [if_pos rfl, hx, shl_one .u32 b (by omega) (.inl rfl)]
    have hp : 2 ^ b ≤ 2 ^ 30 := Nat.pow_le_pow_right (by decide) (by omega)
    rw [or_u32 _ _ hl (by omega)]
    refine ⟨_, rfl, Nat.or_lt_two_pow (n := 32) hl (by omega), fun j => ?_⟩
    rw [Nat.testBit_or, Nat.testBit_two_pow, Bool.or_eq_true, hS, decide_eq_true_eq]
    simp
  · rw [if_neg e]
    exact ⟨x, hx, hl, fun j => by rw [hS]; simp [e]⟩

theorem near_l0 {n : Nat} {l : List S57} (g : Good n l) : ∀ d i, i + d = l.length → ∀ nb, NearI n (l.take i) nb → ∃ nb', NearI n l nb' ∧ Ev (fun k => graph_Near.l0 k nb l (l.length : Int) (i : Int)) nb' := by
  intro d
  induction d with
  | zero =>
    intro i hi nb h
    obtain rfl : i = l.length := by omega
    rw [List.take_length] at h
    refine ⟨nb, h, Ev.step (g := fun _ => some nb) (fun k => ?_) (.const nb)⟩
    rw [graph_Near.l0, if_neg (by omega)]
  | succ d ih =>
    intro i hi nb h
    have hlt : i < l.length := by omega
    have hl := g.len
    have hw : wrap64 ((i : Int) + 1) = ((i + 1 : Nat) : Int) := by rw [w64 (by omega) (by omega)]; omega
    obtain ⟨e0, e1, e2, e3, e4, -⟩ := g.ends l[i] (List.getElem_mem hlt)
    have ht : l.take (i + 1) = l.take i ++ [l[i]] := by rw [List.take_add_one, List.getElem?_eq_getElem hlt]; rfl
    generalize he : l[i] = e at *
    obtain ⟨a, ha⟩ : ∃ a : Nat, e.f0 = a := ⟨e.f0.toNat, by omega⟩
    obtain ⟨b, hb⟩ : ∃ b : Nat, e.f1 = b := ⟨e.f1.toNat, by omega⟩
    have h1 := HasW.put (a := a) (b := b) h.1 g.n10 (by omega) (by omega) h.2
    have h2 := HasW.put (a := b) (b := a) h1.1 g.n10 (by omega) (by omega) h1.2
    obtain ⟨nb', k1, k2⟩ := ih (i + 1) (by omega) _ ⟨h2.1, fun v hv => by
      obtain ⟨x, hx, hxl, hS⟩ := h2.2 v hv
      refine ⟨x, hx, hxl, fun j => ?_⟩
      rw [hS, ht]
      unfold nbr E
      rw [List.map_append]
      simp only [List.mem_append, List.map_cons, List.map_nil, List.mem_singleton]
      constructor
      · rintro ((⟨f, hf, hh⟩ | hh) | hh)
        · exact ⟨f, .inl hf, hh⟩
        · exact ⟨_, .inr rfl, by rw [ha, hb]; exact .inl hh⟩
        · exact ⟨_, .inr rfl, by rw [ha, hb]; exact .inr ⟨hh.2, hh.1⟩⟩
      · rintro ⟨f, hf | rfl, hh⟩
        · exact .inl (.inl ⟨f, hf, hh⟩)
        · rw [ha, hb] at hh
          rcases hh with hh | hh
          · exact .inl (.inr hh)
          · exact .inr ⟨hh.2, hh.1⟩⟩
    refine ⟨nb', k1, Ev.step (fun k => ?_) k2⟩
    conv => lhs; rw [graph_Near.l0]
    have hlen := h.1
    rw [if_pos (by omega), if_pos (by omega), if_pos (by omega), rdT l i hlt, he, ha, hb, if_pos (by omega), if_pos (by omega), if_pos (by omega)]
    simp only [Option.bind_some, Int.toNat_natCast]
    rw [if_pos (by omega), hw]

theorem near_is {n : Nat} {l : List S57} (g : Good n l) : ∃ nb, NearI n l nb ∧ Ev (fun k => graph_Near.f k n l) nb := by
  have h10 := g.n10
  obtain ⟨nb, h1, h2⟩ := near_l0 g l.length 0 (by omega) (List.replicate n 0) ⟨List.length_replicate, fun v hv => ⟨0, by
    unfold rd; rw [Int.toNat_natCast, List.getD_eq_getElem?_getD, List.getElem?_replicate]; simp [hv], by omega, fun j => by simp [nbr, E]⟩⟩
  refine ⟨nb, h1, Ev.congr (fun k => ?_) h2⟩
  unfold graph_Near.f
  rw [if_pos (by omega), if_pos (by omega)]
  rfl

/-- No two members of a word have an edge, as a test. -/
def apartB (es : List (Nat × Nat)) (s : Nat) : Bool := es.all fun e => !(s.testBit e.1 && s.testBit e.2)
theorem apartB_iff (es : List (Nat × Nat)) (s : Nat) : apartB es s = true ↔ Apart es s := by
  unfold apartB Apart
  rw [List.all_eq_true]
  refine forall_congr' fun e => forall_congr' fun _ => ?_
  cases s.testBit e.1 <;> cases s.testBit e.2 <;> simp

theorem lt_of_bit {s n i : Nat} (hs : s < 2 ^ n) (h : s.testBit i = true) : i < n := by
  rcases Nat.lt_or_ge i n with h1 | h1
  · exact h1
  · rw [Nat.testBit_lt_two_pow (Nat.lt_of_lt_of_le hs (Nat.pow_le_pow_right (by decide) h1))] at h; cases h

theorem apart_is {n : Nat} {l : List S57} (g : Good n l) {nb : List Int} (h : NearI n l nb) {s : Nat} (hs : s < 2 ^ n) : colour_apart.f nb (s : Int) = some (apartB (E l) s) := by
  have h10 := g.n10
  have hp : 2 ^ n ≤ 2 ^ 10 := Nat.pow_le_pow_right (by decide) h10
  have hm := mem_bitsOf s (by omega)
  unfold colour_apart.f
  rw [Int.toNat_natCast, if_pos ⟨by omega, by omega, fun i hi => by rw [h.1]; exact lt_of_bit hs ((hm i).1 hi)⟩]
  congr 1
  rw [Bool.eq_iff_iff, apartB_iff, List.all_eq_true]
  have apI : ∀ i, s.testBit i = true → (apP nb (s : Int) i = true ↔ ∀ j, s.testBit j = true → ¬ nbr (E l) i j) := fun i hi => by
    obtain ⟨x, hx, hxl, hS⟩ := h.2 i (lt_of_bit hs hi)
    unfold apP
    rw [hx, B.and_u32 _ _ hxl (by omega), beq_iff_eq]
    constructor
    · intro hz j hj hn
      have : (x &&& s).testBit j = true := by rw [Nat.testBit_and, (hS j).2 hn, hj]; rfl
      rw [show x &&& s = 0 by omega, Nat.zero_testBit] at this; cases this
    · intro hh
      have : x &&& s = 0 := Nat.eq_of_testBit_eq fun j => by
        rw [Nat.testBit_and, Nat.zero_testBit]
        cases h1 : s.testBit j
        · simp
        · cases h2 : x.testBit j
          · rfl
          · exact absurd ((hS j).1 h2) (hh j h1)
      omega
  constructor
  · intro hh e he ⟨h1, h2⟩
    exact (apI _ h1).1 (hh _ ((hm _).2 h1)) _ h2 ⟨e, he, .inl ⟨rfl, rfl⟩⟩
  · intro hh i hi
    have hi := (hm i).1 hi
    refine (apI i hi).2 fun j hj ⟨e, he, hc⟩ => ?_
    rcases hc with ⟨rfl, rfl⟩ | ⟨rfl, rfl⟩
    · exact hh e he ⟨hi, hj⟩
    · exact hh e he ⟨hj, hi⟩

theorem loose_l0 {n : Nat} {l : List S57} (g : Good n l) {s : Nat} (hs : s < 2 ^ n) : ∀ d i, i + d = l.length → Ev (fun k => teamsterref_Loose.l0 k (s : Int) l (l.length : Int) (i : Int)) (apartB (E (l.drop i)) s) := by
  have h10 := g.n10
  have hp : 2 ^ n ≤ 2 ^ 10 := Nat.pow_le_pow_right (by decide) h10
  intro d
  induction d with
  | zero =>
    intro i hi
    obtain rfl : i = l.length := by omega
    rw [List.drop_length]
    refine Ev.step (g := fun _ => some true) (fun k => ?_) (.const _)
    rw [teamsterref_Loose.l0, if_neg (by omega)]
  | succ d ih =>
    intro i hi
    have hlt : i < l.length := by omega
    have hl := g.len
    have hih := ih (i + 1) (by omega)
    have hw : wrap64 ((i : Int) + 1) = ((i + 1 : Nat) : Int) := by rw [w64 (by omega) (by omega)]; omega
    obtain ⟨e0, e1, e2, e3, e4, -⟩ := g.ends l[i] (List.getElem_mem hlt)
    rw [List.drop_eq_getElem_cons hlt]
    generalize he : l[i] = e at *
    obtain ⟨a, ha⟩ : ∃ a : Nat, e.f0 = a := ⟨e.f0.toNat, by omega⟩
    obtain ⟨b, hb⟩ : ∃ b : Nat, e.f1 = b := ⟨e.f1.toNat, by omega⟩
    have hv : apartB (E (e :: l.drop (i + 1))) s = (!(s.testBit a && s.testBit b) && apartB (E (l.drop (i + 1))) s) := by
      simp [apartB, E, ha, hb]
    rw [hv]
    refine Ev.step (g := fun k => if s.testBit a = true then (if s.testBit b = true then some false else teamsterref_Loose.l0 k (s : Int) l (l.length : Int) ((i + 1 : Nat) : Int)) else teamsterref_Loose.l0 k (s : Int) l (l.length : Int) ((i + 1 : Nat) : Int)) (fun k => ?_) ?_
    · conv => lhs; rw [teamsterref_Loose.l0]
      rw [if_pos (by omega), if_pos (by omega), if_pos (by omega), rdT l i hlt, he, ha, hb, bit_is s a (by omega) (by omega), bit_is s b (by omega) (by omega), hw]
      simp only [Option.bind_some]
    · cases s.testBit a <;> cases s.testBit b <;> simp <;> first | exact hih | exact .const _

theorem loose_is {n : Nat} {l : List S57} (g : Good n l) {s : Nat} (hs : s < 2 ^ n) (m : Int) : Ev (fun k => teamsterref_Loose.f k m l (s : Int)) (apartB (E l) s) := loose_l0 g hs l.length 0 (by omega)

/-! ### The next smaller part of a word -/
theorem next_sub {w s : Nat} (hs : Sub s w) (h0 : s ≠ 0) (hl : s < 4294967296) : Sub ((s - 1) &&& w) w ∧ (s - 1) &&& w < s ∧ ∀ r, Sub r w → r < s → r ≤ (s - 1) &&& w := by
  refine ⟨by unfold Sub; rw [Nat.and_assoc, Nat.and_self], by have := @Nat.and_le_left (s - 1) w; omega, fun r hr hlt => ?_⟩
  obtain ⟨m, hm, -⟩ := ctz_form h0 hl
  generalize Lib.ctz 32 s = p at hm
  have hp : 0 < 2 ^ p := Nat.two_pow_pos p
  have hmul : 2 ^ p * (2 * m + 1) = 2 ^ p * (2 * m) + 2 ^ p := by rw [Nat.mul_add, Nat.mul_one]
  -- the parts above p and below
  have d1 : (s - 1) / 2 ^ p = 2 * m := by
    have : s - 1 = 2 ^ p * (2 * m) + (2 ^ p - 1) := by omega
    rw [this, Nat.mul_add_div hp, Nat.div_eq_of_lt (by omega)]; rfl
  have d2 : (s - 1) % 2 ^ p = 2 ^ p - 1 := by
    have : s - 1 = 2 ^ p * (2 * m) + (2 ^ p - 1) := by omega
    rw [this, Nat.mul_add_mod]; exact Nat.mod_eq_of_lt (by omega)
  have ws : (2 * m + 1) &&& (w / 2 ^ p) = 2 * m + 1 := by
    have : (s &&& w) / 2 ^ p = s / 2 ^ p := by rw [show s &&& w = s from hs]
    rw [Nat.and_div_two_pow] at this
    have e : s / 2 ^ p = 2 * m + 1 := by rw [hm, Nat.mul_div_cancel_left _ hp]
    rw [e] at this; exact this
  have wm : (2 * m) &&& (w / 2 ^ p) = 2 * m := by
    apply Nat.eq_of_testBit_eq
    intro j
    have := congrArg (fun x => x.testBit j) ws
    simp only [Nat.testBit_and] at this ⊢
    cases j with
    | zero => simp
    | succ j =>
      simp only [Nat.testBit_succ] at this ⊢
      have h1 : (2 * m + 1) / 2 = m := by omega
      have h2 : 2 * m / 2 = m := by omega
      rw [h1] at this; rw [h2]; exact this
  have x1 : ((s - 1) &&& w) / 2 ^ p = 2 * m := by rw [Nat.and_div_two_pow, d1, wm]
  have x2 : ((s - 1) &&& w) % 2 ^ p = w % 2 ^ p := by
    rw [Nat.and_mod_two_pow, d2]
    apply Nat.eq_of_testBit_eq
    intro j
    rw [Nat.testBit_and, Nat.testBit_two_pow_sub_one, Nat.testBit_mod_two_pow]
    by_cases h : j < p <;> simp [h]
  have r1 : r / 2 ^ p ≤ 2 * m := by
    have : r / 2 ^ p < 2 * m + 1 := (Nat.div_lt_iff_lt_mul hp).2 (by rw [Nat.mul_comm]; omega)
    omega
  have r2 : r % 2 ^ p ≤ w % 2 ^ p := by
    have : r % 2 ^ p = (r % 2 ^ p) &&& (w % 2 ^ p) := by rw [← Nat.and_mod_two_pow, show r &&& w = r from hr]
    rw [this]; exact Nat.and_le_right
  have rr := Nat.div_add_mod r (2 ^ p)
  have xx := Nat.div_add_mod ((s - 1) &&& w) (2 ^ p)
  rw [x1, x2] at xx
  have := Nat.mul_le_mul_left (2 ^ p) r1
  omega

end Go.Proofs.YtoblkmbmacimiaaDoor.L
