/- Plain: what the printed functions come to where the fuel is large enough; words of bits. -/
import Derived.Test.YtoblkmbmacimiaaDoorTurns
import Derived.Test.YtoblkmbmacimiaaDoorApart
import Derived.Test.YtoblkmbmacimiaaDoorCheck
import Derived.Test.YtoblkmbmacimiaaDoorGteamsterrefGraphCheck
import Derived.Test.YtoblkmbmacimiaaDoorGteamsterrefBit
import Derived.Test.YtoblkmbmacimiaaDoorGteamsterrefLoose
import Derived.Test.YtoblkmbmacimiaaDoorGgraphNear
namespace Go.Proofs.YtoblkmbmacimiaaDoor.L
open Go Go.RowKit Go.Proofs.YtoblkmbmacimiaaDoorW.PrintWords Go.Proofs.YtoblkmbmacimiaaDoorW.PrintMore Go.Proofs.YtoblkmbmacimiaaDoor.G

def Ev {α : Type} (f : Nat → Option α) (v : α) : Prop := ∃ k0, ∀ k, k0 ≤ k → f k = some v
theorem Ev.step {α : Type} {f g : Nat → Option α} {v : α} (h : ∀ k, f (k + 1) = g k) (hg : Ev g v) : Ev f v := by
  obtain ⟨k0, h0⟩ := hg
  refine ⟨k0 + 1, fun k hk => ?_⟩
  obtain ⟨k, rfl⟩ : ∃ m, k = m + 1 := ⟨k - 1, by omega⟩
  rw [h]; exact h0 k (by omega)
theorem Ev.const {α : Type} (v : α) : Ev (fun _ => some v) v := ⟨0, fun _ _ => rfl⟩
theorem Ev.of_eq {α : Type} {f : Nat → Option α} {v : α} (h : ∀ k, f k = some v) : Ev f v := ⟨0, fun k _ => h k⟩
theorem Ev.bind {α β : Type} {a : Nat → Option α} {b : Nat → α → Option β} {u : α} {v : β} (ha : Ev a u) (hb : Ev (fun k => b k u) v) : Ev (fun k => (a k).bind (b k)) v := by
  obtain ⟨k0, h0⟩ := ha
  obtain ⟨k1, h1⟩ := hb
  refine ⟨max k0 k1, fun k hk => ?_⟩
  show (a k).bind (b k) = some v
  rw [h0 k (by omega)]; exact h1 k (by omega)
theorem Ev.congr {α : Type} {f g : Nat → Option α} {v : α} (h : ∀ k, f k = g k) (hg : Ev g v) : Ev f v := by
  obtain ⟨k0, h0⟩ := hg
  exact ⟨k0, fun k hk => by rw [h]; exact h0 k hk⟩
theorem Ev.get {α : Type} {f : Nat → Option α} {v : α} (h : Ev f v) : ∃ k, f k = some v := by
  obtain ⟨k0, h0⟩ := h
  exact ⟨k0, h0 k0 (Nat.le_refl _)⟩

/-! ### Words -/
theorem ofInt32 (a : Nat) (ha : a < 4294967296) : (BitVec.ofInt 32 (a : Int)).toNat = a := by
  rw [BitVec.ofInt_natCast, BitVec.toNat_ofNat]; exact Nat.mod_eq_of_lt (by omega)
theorem or_u32 (a b : Nat) (ha : a < 4294967296) (hb : b < 4294967296) : bits .or .u32 (a : Int) (b : Int) = ((a ||| b : Nat) : Int) := by
  have hx : a ||| b < 2 ^ 32 := Nat.or_lt_two_pow (by omega) (by omega)
  show IntKind.u32.wrap ((BitVec.ofInt 32 (a : Int) ||| BitVec.ofInt 32 (b : Int)).toNat : Int) = _
  rw [BitVec.toNat_or, ofInt32 a ha, ofInt32 b hb, B.wrap_u32']
  omega
theorem andNot_u32 (a b : Nat) (ha : a < 4294967296) (hb : b < 4294967296) (h : Sub b a) : bits .andNot .u32 (a : Int) (b : Int) = ((a ^^^ b : Nat) : Int) := by
  have hx : a ^^^ b < 2 ^ 32 := Nat.xor_lt_two_pow (by omega) (by omega)
  show IntKind.u32.wrap ((BitVec.ofInt 32 (a : Int) &&& ~~~ BitVec.ofInt 32 (b : Int)).toNat : Int) = _
  have e : (BitVec.ofInt 32 (a : Int) &&& ~~~ BitVec.ofInt 32 (b : Int)) = BitVec.ofNat 32 (a ^^^ b) := by
    rw [BitVec.ofInt_natCast, BitVec.ofInt_natCast]
    apply BitVec.eq_of_getLsbD_eq
    intro i hi
    simp only [BitVec.getLsbD_and, BitVec.getLsbD_not, BitVec.getLsbD_ofNat, hi, decide_true, Bool.true_and, diff_bit h]
  rw [e, BitVec.toNat_ofNat, Nat.mod_eq_of_lt (by omega), B.wrap_u32']
  omega
theorem shl_one (k : IntKind) (i : Nat) (hi : i < 31) (hk : k = .u32 ∨ k = .i64) : shl k 1 (i : Int) = ((2 ^ i : Nat) : Int) := by
  have hp : 2 ^ i ≤ 2 ^ 30 := Nat.pow_le_pow_right (by decide) (by omega)
  have h0 : 0 < 2 ^ i := Nat.two_pow_pos i
  unfold shl
  rw [Int.toNat_natCast, Int.one_mul]
  have : ((2 : Int) ^ i) = ((2 ^ i : Nat) : Int) := by simp
  rcases hk with rfl | rfl
  · rw [Nat.min_eq_left (by show i ≤ 32; omega), this, B.wrap_u32']; omega
  · rw [Nat.min_eq_left (by show i ≤ 64; omega), this]
    simp [IntKind.wrap, IntKind.signed, IntKind.bits]; omega
theorem wrap_u64 (i : Nat) (hi : i < 4294967296) : IntKind.u64.wrap (i : Int) = (i : Int) := by
  simp [IntKind.wrap, IntKind.signed, IntKind.bits]; omega
theorem w64 {x : Int} (h0 : 0 ≤ x) (h1 : x < 9223372036854775807) : wrap64 x = x := by unfold wrap64; omega
theorem bit_and_pow (w i : Nat) : (w &&& 2 ^ i ≠ 0) ↔ w.testBit i = true := by
  constructor
  · intro h
    cases hb : w.testBit i
    · exfalso; apply h
      apply Nat.eq_of_testBit_eq
      intro j
      rw [Nat.testBit_and, Nat.testBit_two_pow, Nat.zero_testBit]
      by_cases e : i = j
      · subst e; simp [hb]
      · simp [e]
    · rfl
  · intro h e
    have : (w &&& 2 ^ i).testBit i = true := by rw [Nat.testBit_and, Nat.testBit_two_pow, h]; simp
    rw [e, Nat.zero_testBit] at this; cases this
theorem bit_is (w i : Nat) (hw : w < 4294967296) (hi : i < 31) : teamsterref_Bit.f (w : Int) (i : Int) = some (w.testBit i) := by
  unfold teamsterref_Bit.f
  rw [if_pos (by omega), if_pos (by omega), if_pos (by rw [wrap_u64 i (by omega)]; omega), wrap_u64 i (by omega), shl_one .u32 i hi (.inl rfl)]
  have hp : 2 ^ i ≤ 2 ^ 30 := Nat.pow_le_pow_right (by decide) (by omega)
  rw [B.and_u32 _ _ hw (by omega)]
  congr 1
  have := bit_and_pow w i
  cases hb : w.testBit i
  · rw [hb] at this
    have : w &&& 2 ^ i = 0 := by
      rcases Nat.eq_zero_or_pos (w &&& 2 ^ i) with h | h
      · exact h
      · exact absurd (this.1 (by omega)) (by simp)
    rw [this]; rfl
  · have := this.2 hb
    simp only [bne_iff_ne, ne_eq]; omega

/-! ### Graphs that the checks let by -/
def E (l : List S57) : List (Nat × Nat) := l.map fun e => (e.f0.toNat, e.f1.toNat)
structure Good (n : Nat) (l : List S57) : Prop where
  n10 : n ≤ 10
  len : l.length ≤ 45
  ends : ∀ e ∈ l, 0 ≤ e.f0 ∧ e.f0 < n ∧ 0 ≤ e.f1 ∧ e.f1 < n ∧ e.f0 ≠ e.f1 ∧ -1048576 ≤ e.f2 ∧ e.f2 ≤ 1048576
theorem good_of {n : Int} {l : List S57} (h : gcheck n l = 0) : ∃ m : Nat, n = m ∧ Good m l := by
  unfold gcheck at h
  by_cases hb : n < 0 ∨ 10 < n ∨ 45 < l.length
  · rw [if_pos hb] at h; cases h
  rw [if_neg hb] at h
  refine ⟨n.toNat, by omega, by omega, by omega, ?_⟩
  have key : ∀ (l pre : List S57), gchk n pre l = 0 → ∀ e ∈ l, 0 ≤ e.f0 ∧ e.f0 < n ∧ 0 ≤ e.f1 ∧ e.f1 < n ∧ e.f0 ≠ e.f1 ∧ -1048576 ≤ e.f2 ∧ e.f2 ≤ 1048576 := by
    intro l
    induction l with
    | nil => intro _ _ e he; cases he
    | cons a t ih =>
      intro pre h e he
      unfold gchk at h
      split at h
      · cases h
      rename_i h1
      split at h
      · cases h
      rename_i h2
      split at h
      · cases h
      rename_i h3
      rcases List.mem_cons.1 he with rfl | he
      · refine ⟨by omega, by omega, by omega, by omega, fun k => h2 (.inl k), by omega, by omega⟩
      · exact ih _ h e he
  intro e he
  have := key l [] h e he
  omega

/-! ### The check of the reference -/
theorem rdT (l : List S57) (i : Nat) (h : i < l.length) : rd_T57 l (i : Int) = l[i] := by
  unfold rd_T57; rw [Int.toNat_natCast, List.getD_eq_getElem?_getD, List.getElem?_eq_getElem h]; rfl

theorem gc_l1 (n : Int) (l pre : List S57) (i : Nat) (xs : List S57) (e : S57) (hp : pre.length ≤ 45) (r : Int)
    (next : Ev (fun k => if e.f2 < (-1048576) then some 4 else if e.f2 > 1048576 then some 4 else teamsterref_GraphCheck.l0 k xs (xs.length : Int) (wrap64 ((i : Int) + 1)) n l) r) :
    ∀ d j, j + d = pre.length → Ev (fun k => teamsterref_GraphCheck.l1 k xs (xs.length : Int) (i : Int) pre (pre.length : Int) (j : Int) n l e.f0 e.f1 e.f2) (if (pre.drop j).any (fun f => decide (f.f0 = e.f0 ∧ f.f1 = e.f1 ∨ f.f0 = e.f1 ∧ f.f1 = e.f0)) = true then 3 else r) := by
  intro d
  induction d with
  | zero =>
    intro j hj
    obtain rfl : j = pre.length := by omega
    rw [List.drop_length]
    simp only [List.any_nil, Bool.false_eq_true, if_false]
    refine Ev.step (g := _) (fun k => ?_) next
    unfold teamsterref_GraphCheck.l1
    rw [if_neg (by omega)]
  | succ d ih =>
    intro j hj
    have hlt : j < pre.length := by omega
    rw [List.drop_eq_getElem_cons hlt, List.any_cons]
    have hi := ih (j + 1) (by omega)
    have hw : wrap64 ((j : Int) + 1) = ((j + 1 : Nat) : Int) := by rw [w64 (by omega) (by omega)]; omega
    refine Ev.step (g := fun k => if (pre[j].f0 = e.f0 ∧ pre[j].f1 = e.f1 ∨ pre[j].f0 = e.f1 ∧ pre[j].f1 = e.f0) then some 3 else teamsterref_GraphCheck.l1 k xs (xs.length : Int) (i : Int) pre (pre.length : Int) ((j + 1 : Nat) : Int) n l e.f0 e.f1 e.f2) (fun k => ?_) ?_
    · conv => lhs; unfold teamsterref_GraphCheck.l1
      rw [if_pos (by omega), if_pos (by omega), if_pos (by omega), rdT pre j hlt, hw]
      split <;> split <;> (try split) <;> (try split) <;> (try split) <;> first | rfl | (exfalso; omega) | simp_all
    · by_cases c : pre[j].f0 = e.f0 ∧ pre[j].f1 = e.f1 ∨ pre[j].f0 = e.f1 ∧ pre[j].f1 = e.f0
      · rw [if_pos (by simp [c])]
        simp only [if_pos c]; exact .const 3
      · simp only [if_neg c, decide_eq_false c, Bool.false_or]
        exact hi

theorem gc_l0 (n : Int) (l : List S57) (hl : l.length ≤ 45) : ∀ d i, i + d = l.length → Ev (fun k => teamsterref_GraphCheck.l0 k l (l.length : Int) (i : Int) n l) (gchk n (l.take i) (l.drop i)) := by
  intro d
  induction d with
  | zero =>
    intro i hi
    obtain rfl : i = l.length := by omega
    rw [List.drop_length, gchk]
    refine Ev.step (g := fun _ => some 0) (fun k => ?_) (.const 0)
    unfold teamsterref_GraphCheck.l0
    rw [if_neg (by omega)]
  | succ d ih =>
    intro i hi
    have hlt : i < l.length := by omega
    have hih := ih (i + 1) (by omega)
    have hw : wrap64 ((i : Int) + 1) = ((i + 1 : Nat) : Int) := by rw [w64 (by omega) (by omega)]; omega
    rw [List.drop_eq_getElem_cons hlt, gchk]
    have ht : l.take i ++ [l[i]] = l.take (i + 1) := by rw [List.take_add_one, List.getElem?_eq_getElem hlt]; rfl
    rw [ht]
    generalize he : l[i] = e at *
    refine Ev.step (g := fun k => teamsterref_GraphCheck.j2 k (i : Int) l (l.length : Int) (i : Int) (decide (e.f0 < 0 ∨ n ≤ e.f0 ∨ e.f1 < 0 ∨ n ≤ e.f1)) n l e.f0 e.f1 e.f2) (fun k => ?_) ?_
    · conv => lhs; unfold teamsterref_GraphCheck.l0
      rw [if_pos (by omega), if_pos (by omega), if_pos (by omega), rdT l i hlt, he]
      by_cases a1 : e.f0 < 0
      · rw [if_pos a1, decide_eq_true (Or.inl a1)]
      · rw [if_neg a1]
        by_cases a2 : e.f0 ≥ n
        · rw [if_pos a2, decide_eq_true (by omega)]
        · rw [if_neg a2]
          by_cases a3 : e.f1 < 0
          · rw [if_pos a3, decide_eq_true (by omega)]
          · rw [if_neg a3]; congr 1; exact decide_eq_decide.2 (by omega)
    · by_cases b1 : e.f0 < 0 ∨ n ≤ e.f0 ∨ e.f1 < 0 ∨ n ≤ e.f1
      · rw [if_pos b1]
        refine Ev.step (g := fun _ => some 2) (fun k => ?_) (.const 2)
        unfold teamsterref_GraphCheck.j2
        rw [decide_eq_true b1, if_pos rfl]
      · rw [if_neg b1]
        have hlen : (l.take i).length = i := by rw [List.length_take]; omega
        by_cases b2 : e.f0 = e.f1
        · rw [if_pos (.inl b2)]
          refine Ev.step (g := fun _ => some 3) (fun k => ?_) (.const 3)
          unfold teamsterref_GraphCheck.j2
          rw [decide_eq_false b1, if_neg (by simp), if_pos b2]
        · have L := gc_l1 n l (l.take i) i l e (by omega) (if e.f2 < -1048576 ∨ 1048576 < e.f2 then 4 else gchk n (l.take (i + 1)) (l.drop (i + 1))) (by
            rw [hw]
            by_cases b3 : e.f2 < -1048576 ∨ 1048576 < e.f2
            · rw [if_pos b3]
              refine .of_eq fun k => ?_
              by_cases b4 : e.f2 < -1048576
              · rw [if_pos b4]
              · rw [if_neg b4, if_pos (by omega)]
            · rw [if_neg b3]
              refine Ev.congr (fun k => ?_) hih
              rw [if_neg (by omega), if_neg (by omega)]) i 0 (by omega)
          rw [List.drop_zero] at L
          have hv : (if e.f0 = e.f1 ∨ dup (l.take i) e = true then (3 : Int) else if e.f2 < -1048576 ∨ 1048576 < e.f2 then 4 else gchk n (l.take (i + 1)) (l.drop (i + 1)))
              = (if (l.take i).any (fun f => decide (f.f0 = e.f0 ∧ f.f1 = e.f1 ∨ f.f0 = e.f1 ∧ f.f1 = e.f0)) = true then (3 : Int) else if e.f2 < -1048576 ∨ 1048576 < e.f2 then 4 else gchk n (l.take (i + 1)) (l.drop (i + 1))) := by
            unfold dup
            by_cases b : (l.take i).any (fun f => decide (f.f0 = e.f0 ∧ f.f1 = e.f1 ∨ f.f0 = e.f1 ∧ f.f1 = e.f0)) = true
            · rw [if_pos (.inr b), if_pos b]
            · rw [if_neg fun hh => hh.elim b2 b, if_neg b]
          rw [hv]
          refine Ev.step (fun k => ?_) L
          conv => lhs; unfold teamsterref_GraphCheck.j2
          rw [decide_eq_false b1, if_neg (by simp), if_neg b2, if_pos (by omega), if_pos (by omega)]
          simp only [Option.bind_some, Int.toNat_natCast]
          rfl

theorem gc_is (n : Int) (l : List S57) : Ev (fun k => teamsterref_GraphCheck.f k n l) (gcheck n l) := by
  unfold gcheck
  have j0 : ∀ b, Ev (fun k => teamsterref_GraphCheck.j0 k b n l) (if b = true then 1 else gchk n [] l) ∨ 45 < l.length ∧ b = false := by
    intro b
    cases b
    · by_cases hl : 45 < l.length
      · exact .inr ⟨hl, rfl⟩
      · left
        refine Ev.step (fun k => ?_) (gc_l0 n l (by omega) l.length 0 (by omega))
        conv => lhs; rw [teamsterref_GraphCheck.j0]
        rw [if_neg (by simp)]; rfl
    · left
      refine Ev.step (g := fun _ => some 1) (fun k => ?_) (.const 1)
      rw [teamsterref_GraphCheck.j0, if_pos rfl]
  by_cases h1 : n < 0
  · rw [if_pos (.inl h1)]
    have := (j0 true).resolve_right (by simp)
    exact Ev.congr (fun k => by unfold teamsterref_GraphCheck.f; rw [if_pos h1]) this
  · by_cases h2 : n > 10
    · rw [if_pos (.inr (.inl h2))]
      have := (j0 true).resolve_right (by simp)
      exact Ev.congr (fun k => by unfold teamsterref_GraphCheck.f; rw [if_neg h1, if_pos h2]) this
    · by_cases h3 : 45 < l.length
      · rw [if_pos (.inr (.inr h3))]
        have := (j0 true).resolve_right (by simp)
        exact Ev.congr (fun k => by unfold teamsterref_GraphCheck.f; rw [if_neg h1, if_neg h2, decide_eq_true (by omega)]) this
      · rw [if_neg (by omega)]
        have := (j0 false).resolve_right (by omega)
        exact Ev.congr (fun k => by unfold teamsterref_GraphCheck.f; rw [if_neg h1, if_neg h2, decide_eq_false (by omega)]) this

end Go.Proofs.YtoblkmbmacimiaaDoor.L
