/- The reference's rounds are the same rounds; a map that may be can be walked. The row of MapsFaces, out of its plain statement and the walk. The law MapsFaces: how many rounds a map has, by two roads. -/
import Derived.Test.YtoblkmbmacimiaaDoorMapsFaces
import Derived.Test.YtoblkmbmacimiaaDoorOpenRows
import Derived.Test.YtoblkmbmacimiaaDoorCards
import Derived.Test.YtoblkmbmacimiaaDoorTie
import Derived.SevenTiedAt
import Derived.Test.YtoblkmbmacimiaaDoorGteamsterlawMapsFaces

namespace Go.Proofs.YtoblkmbmacimiaaDoor.L
open Go Go.RowKit Go.Proofs.YtoblkmbmacimiaaDoor.B Go.Proofs.YtoblkmbmacimiaaDoorW.PrintWords Go.Proofs.YtoblkmbmacimiaaDoorW.PrintMore Go.Proofs.YtoblkmbmacimiaaDoor.G

/-! ### There is such a walk -/
/-- Whoever lies round one has it round itself. -/
def Sym (m : Nat) (round : List (List Int)) : Prop := ∀ (a : Nat) (b : Int), a < m → b ∈ rd_L4 round (a : Int) → 0 ≤ b ∧ b < m ∧ (a : Int) ∈ rd_L4 round b
theorem rd_mem {l : List Int} {i : Nat} (h : i < l.length) : rd l (i : Int) ∈ l := by rw [rdI l i h]; exact List.getElem_mem _
theorem Vd.next {m : Nat} {round : List (List Int)} (hs : Sym m round) {d : Dart} (h : Vd m round d) : Vd m round (nxt round d) := by
  obtain ⟨a, b⟩ := d
  obtain ⟨h1, h2, h3, h4, h5⟩ := h
  simp only at h1 h2 h3 h4 h5
  have hm : rd (rd_L4 round b) (nxtI (rd_L4 round b) a : Int) ∈ rd_L4 round b := rd_mem (nxtI_lt h5)
  obtain ⟨b', rfl⟩ : ∃ b' : Nat, b = b' := ⟨b.toNat, by omega⟩
  obtain ⟨h6, h7, h8⟩ := hs b' _ (by omega) hm
  exact ⟨h3, h4, h6, h7, h8⟩
/-- No more marks than places. -/
def Fits (S : List Dart) : Prop := S.length + free S ≤ 100
theorem fits_nil : Fits [] := by
  have h1 : free [] ≤ grid.length := List.countP_le_length
  have h2 : grid.length = 100 := by rfl
  unfold Fits
  rw [List.length_nil]; omega
theorem fits_cons {S : List Dart} {d : Dart} (h : Fits S) (hd : d ∉ S) (hg : d ∈ grid) : Fits (d :: S) := by
  have := free_lt hd hg
  unfold Fits at *
  rw [List.length_cons]; omega
theorem free_pos {S : List Dart} {d : Dart} (hd : d ∉ S) (hg : d ∈ grid) : 0 < free S := List.countP_pos_iff.2 ⟨d, hg, by simpa using hd⟩
theorem walk_is {m : Nat} (hm : m ≤ 10) {round : List (List Int)} (hs : Sym m round) : ∀ (n : Nat) (S : List Dart) (d : Dart), free S ≤ n → Fits S → Vd m round d → ∃ R, Walk m round S d R ∧ Fits R := by
  intro n
  induction n with
  | zero =>
    intro S d hn hf hd
    by_cases h : d ∈ S
    · exact ⟨S, .done hd h, hf⟩
    · have := free_pos h (mem_grid hm hd); omega
  | succ n ih =>
    intro S d hn hf hd
    by_cases h : d ∈ S
    · exact ⟨S, .done hd h, hf⟩
    · have hg := mem_grid hm hd
      have hl := free_lt h hg
      have hp := free_pos h hg
      obtain ⟨R, h1, h2⟩ := ih (d :: S) _ (by omega) (fits_cons hf h hg) (Vd.next hs hd)
      exact ⟨R, .step hd h (by unfold Fits at hf; omega) h1, h2⟩
theorem row_is {m : Nat} (hm : m ≤ 10) {round : List (List Int)} (hs : Sym m round) (i : Nat) (hi : i < m) : ∀ (l : List Int) (S : List Dart) (n : Nat), (∀ j ∈ l, j ∈ rd_L4 round (i : Int)) → Fits S → n + l.length < 100000 → ∃ R r, RowW m round (i : Int) l S n R r ∧ Fits R ∧ r ≤ n + l.length := by
  intro l
  induction l with
  | nil => intro S n _ hf _; exact ⟨S, n, .nil, hf, by simp⟩
  | cons j t ih =>
    intro S n hl hf hn
    rw [List.length_cons] at hn
    obtain ⟨h1, h2, h3⟩ := hs i j hi (hl j List.mem_cons_self)
    have hd : Vd m round ((i : Int), j) := ⟨by simp, by simp; omega, h1, h2, h3⟩
    have hS : S.length ≤ 100 := by unfold Fits at hf; omega
    have ht : ∀ j ∈ t, j ∈ rd_L4 round (i : Int) := fun j hj => hl j (List.mem_cons_of_mem _ hj)
    by_cases h : ((i : Int), j) ∈ S
    · obtain ⟨R, r, k1, k2, k3⟩ := ih S n ht hf (by omega)
      exact ⟨R, r, .old hd h hS k1, k2, by rw [List.length_cons]; omega⟩
    · obtain ⟨S1, w1, w2⟩ := walk_is hm hs (free S) S _ (Nat.le_refl _) hf hd
      obtain ⟨R, r, k1, k2, k3⟩ := ih S1 (n + 1) ht w2 (by omega)
      exact ⟨R, r, .new hd h hS (by omega) w1 k1, k2, by rw [List.length_cons]; omega⟩
theorem all_is {m : Nat} (hm : m ≤ 10) {round : List (List Int)} (hs : Sym m round) (hl : ∀ b : Int, (rd_L4 round b).length ≤ 1000) : ∀ (d i : Nat) (S : List Dart) (n : Nat), i + d = m → Fits S → n ≤ 1001 * i → ∃ r, AllW m round i S n r := by
  intro d
  induction d with
  | zero => intro i S n hi _ _; obtain rfl : i = m := (by omega); exact ⟨n, .nil⟩
  | succ d ih =>
    intro i S n hi hf hn
    by_cases h : rd_L4 round (i : Int) = []
    · obtain ⟨r, hr⟩ := ih (i + 1) S (n + 1) (by omega) hf (by omega)
      exact ⟨r, .none (by omega) h (by omega) hr⟩
    · have hli := hl (i : Int)
      obtain ⟨R, n1, k1, k2, k3⟩ := row_is hm hs i (by omega) (rd_L4 round (i : Int)) S n (fun _ h => h) hf (by omega)
      obtain ⟨r, hr⟩ := ih (i + 1) R n1 (by omega) k2 (by omega)
      exact ⟨r, .row (by omega) h hli k1 hr⟩

/-! ### The reference makes it, too -/
/-- The reference's marks. -/
def Marks (m : Nat) (face : List Int) (S : List Dart) : Prop := face.length = m * m ∧ ∀ x y : Nat, x < m → y < m → (rd face ((x * m + y : Nat) : Int) = 0 ↔ ((x : Int), (y : Int)) ∉ S)
theorem marks_nil (m : Nat) : Marks m (List.replicate (m * m) 0) [] := ⟨by simp, fun x y _ _ => by
  constructor
  · intro _ h; cases h
  · intro _
    unfold rd
    rw [Int.toNat_natCast, List.getD_eq_getElem?_getD, List.getElem?_replicate]
    split <;> rfl⟩
theorem pos_inj {m x y x' y' : Nat} (hy : y < m) (hy' : y' < m) (h : x * m + y = x' * m + y') : x = x' ∧ y = y' := by
  have hm : 0 < m := by omega
  have h1 : (x * m + y) / m = x := by rw [Nat.mul_comm, Nat.mul_add_div hm, Nat.div_eq_of_lt hy]; rfl
  have h2 : (x' * m + y') / m = x' := by rw [Nat.mul_comm, Nat.mul_add_div hm, Nat.div_eq_of_lt hy']; rfl
  rw [h, h2] at h1
  subst h1
  exact ⟨rfl, by omega⟩
theorem pos_lt {m x y : Nat} (hx : x < m) (hy : y < m) : x * m + y < m * m := by
  have : (x + 1) * m ≤ m * m := Nat.mul_le_mul_right m hx
  rw [Nat.succ_mul] at this; omega
theorem marks_set {m : Nat} {face : List Int} {S : List Dart} (h : Marks m face S) {x y : Nat} (hx : x < m) (hy : y < m) (v : Int) (hv : v ≠ 0) : Marks m (face.set (x * m + y) v) (((x : Int), (y : Int)) :: S) := by
  refine ⟨by rw [List.length_set]; exact h.1, fun x' y' hx' hy' => ?_⟩
  have h1 := h.2 x' y' hx' hy'
  have hp := pos_lt hx hy
  rw [List.mem_cons, not_or]
  by_cases he : x' = x ∧ y' = y
  · obtain ⟨rfl, rfl⟩ := he
    have : rd (face.set (x' * m + y') v) ((x' * m + y' : Nat) : Int) = v := by
      unfold rd
      rw [Int.toNat_natCast, List.getD_eq_getElem?_getD, List.getElem?_set_self (by rw [h.1]; exact hp)]; rfl
    rw [this]
    exact ⟨fun e => absurd e hv, fun e => absurd rfl e.1⟩
  · have : rd (face.set (x * m + y) v) ((x' * m + y' : Nat) : Int) = rd face ((x' * m + y' : Nat) : Int) := by
      unfold rd
      rw [Int.toNat_natCast, List.getD_eq_getElem?_getD, List.getD_eq_getElem?_getD, List.getElem?_set_ne (fun e => he (by obtain ⟨e1, e2⟩ := pos_inj hy hy' e; exact ⟨e1.symm, e2.symm⟩))]
    rw [this, h1]
    refine ⟨fun e => ⟨fun hh => he ?_, e⟩, fun e => e.2⟩
    injection hh with e1 e2
    omega

theorem pos_w {m x y : Nat} (hm : m ≤ 10) (hx : x < m) (hy : y < m) : wrap64 ((wrap64 ((x : Int) * (m : Int))) + (y : Int)) = ((x * m + y : Nat) : Int) := by
  have h1 := pos_lt hx hy
  have h2 : m * m ≤ 100 := Nat.mul_le_mul hm hm
  rw [← Int.natCast_mul]
  generalize x * m = q at *
  generalize m * m = u at *
  rw [w64 (x := (q : Int)) (by omega) (by omega), w64 (by omega) (by omega)]; omega

set_option maxHeartbeats 4000000 in
theorem ref_l3 {m : Nat} (hm : m ≤ 10) {round : List (List Int)} (hrl : round.length = m) (face : List Int) (many i : Int) (a b : Int) (hV : Vd m round (a, b)) (hl : (rd_L4 round b).length ≤ 1000) (row : List Int) (len k : Int) (R : Int)
    (next : Ev (fun f => teamsterref_Faces.l2 f round (m : Int) face many i b (nxt round (a, b)).2 row len k) R) :
    ∀ d j, j + d = (rd_L4 round b).idxOf a → Ev (fun f => teamsterref_Faces.l3 f round (m : Int) face many i a b (j : Int) row len k) R := by
  obtain ⟨h1, h2, h3, h4, h5⟩ := hV
  simp only at h1 h2 h3 h4 h5
  have hlt := idx_lt h5
  have hb : b < (round.length : Int) := by omega
  intro d
  induction d with
  | zero =>
    intro j hj
    have e : rd (rd_L4 round b) (j : Int) = a := by rw [show j = (rd_L4 round b).idxOf a by omega]; exact idx_at h5
    have hq : Int.tmod (wrap64 ((j : Int) + 1)) ((rd_L4 round b).length : Int) = (nxtI (rd_L4 round b) a : Int) := by
      unfold nxtI
      rw [w64 (by omega) (by omega), ← hj, Int.tmod_eq_emod_of_nonneg (by omega)]; rfl
    have hn := nxtI_lt h5
    refine Ev.step (fun f => ?_) next
    conv => lhs; rw [teamsterref_Faces.l3]
    rw [if_pos h3, if_pos hb, if_pos (by omega), if_pos (by omega), if_pos e, if_neg (by omega), hq, if_pos (by omega), if_pos (by omega)]
    rfl
  | succ d ih =>
    intro j hj
    have hw : wrap64 ((j : Int) + 1) = ((j + 1 : Nat) : Int) := by rw [w64 (by omega) (by omega)]; omega
    refine Ev.step (fun f => ?_) (ih (j + 1) (by omega))
    conv => lhs; rw [teamsterref_Faces.l3]
    rw [if_pos h3, if_pos hb, if_pos (by omega), if_pos (by omega), if_neg (idx_before (by omega)), hw]

set_option maxHeartbeats 4000000 in
theorem ref_l2 {m : Nat} (hm : m ≤ 10) {round : List (List Int)} (hrl : round.length = m) (hl : ∀ b : Int, (rd_L4 round b).length ≤ 1000) (many i : Int) (hmany : many ≠ 0) (row : List Int) (len k : Int) (V : Int) {S R : List Dart} {d : Dart} (h : Walk m round S d R) :
    ∀ face, Marks m face S → (∀ face1, Marks m face1 R → Ev (fun f => teamsterref_Faces.l1 f round (m : Int) face1 many i row len (wrap64 (k + 1))) V) →
    Ev (fun f => teamsterref_Faces.l2 f round (m : Int) face many i d.1 d.2 row len k) V := by
  induction h with
  | @done S d hd h =>
    intro face hM next
    obtain ⟨a, b⟩ := d
    obtain ⟨h1, h2, h3, h4, h5⟩ := hd
    simp only at h1 h2 h3 h4 h5
    obtain ⟨x, rfl⟩ : ∃ x : Nat, a = x := ⟨a.toNat, by omega⟩
    obtain ⟨y, rfl⟩ : ∃ y : Nat, b = y := ⟨b.toNat, by omega⟩
    have hp := pos_lt (m := m) (x := x) (y := y) (by omega) (by omega)
    have hf := hM.2 x y (by omega) (by omega)
    refine Ev.step (fun f => ?_) (next face hM)
    conv => lhs; rw [teamsterref_Faces.l2]
    rw [pos_w hm (by omega) (by omega), if_pos (by omega), if_pos (by have := hM.1; omega), if_neg (fun e => hf.1 e h)]
  | @step S R d hd h hS t ih =>
    intro face hM next
    obtain ⟨a, b⟩ := d
    have hV := hd
    obtain ⟨h1, h2, h3, h4, h5⟩ := hd
    simp only at h1 h2 h3 h4 h5
    obtain ⟨x, rfl⟩ : ∃ x : Nat, a = x := ⟨a.toNat, by omega⟩
    obtain ⟨y, rfl⟩ : ∃ y : Nat, b = y := ⟨b.toNat, by omega⟩
    have hp := pos_lt (m := m) (x := x) (y := y) (by omega) (by omega)
    have hf := hM.2 x y (by omega) (by omega)
    have hM2 := marks_set hM (x := x) (y := y) (by omega) (by omega) many hmany
    have h3 := ref_l3 hm hrl (face.set (x * m + y) many) many i (x : Int) (y : Int) hV (hl _) row len k V (ih _ hM2 next) _ 0 (Nat.zero_add _)
    refine Ev.step (fun f => ?_) h3
    conv => lhs; rw [teamsterref_Faces.l2]
    rw [pos_w hm (by omega) (by omega), if_pos (by omega), if_pos (by have := hM.1; omega), if_pos (hf.2 h), Int.toNat_natCast]
    rfl

theorem nat_w (n : Nat) (hn : n < 100000) : wrap64 ((n : Int) + 1) = ((n + 1 : Nat) : Int) := by rw [w64 (by omega) (by omega)]; omega
set_option maxHeartbeats 4000000 in
theorem ref_l1 {m : Nat} (hm : m ≤ 10) {round : List (List Int)} (hrl : round.length = m) (hl : ∀ b : Int, (rd_L4 round b).length ≤ 1000) (i : Nat) (hi : i < m) (row : List Int) (hrow : row.length ≤ 1000) (V : Int) :
    ∀ d k, k + d = row.length → ∀ (S R : List Dart) (n r : Nat), RowW m round (i : Int) (row.drop k) S n R r → ∀ face, Marks m face S →
      (∀ face1, Marks m face1 R → Ev (fun f => teamsterref_Faces.l0 f round (m : Int) face1 (r : Int) ((i + 1 : Nat) : Int)) V) →
      Ev (fun f => teamsterref_Faces.l1 f round (m : Int) face (n : Int) (i : Int) row (row.length : Int) (k : Int)) V := by
  intro d
  induction d with
  | zero =>
    intro k hk S R n r h face hM next
    rw [List.drop_eq_nil_of_le (by omega)] at h
    obtain ⟨rfl, rfl⟩ := h.inv_nil
    have hw : wrap64 ((i : Int) + 1) = ((i + 1 : Nat) : Int) := by rw [w64 (by omega) (by omega)]; omega
    refine Ev.step (fun f => ?_) (next face hM)
    conv => lhs; rw [teamsterref_Faces.l1]
    rw [if_neg (by omega), hw]
  | succ d ih =>
    intro k hk S R n r h face hM next
    have hkl : k < row.length := by omega
    have q0 : (0 : Int) ≤ (k : Int) := Int.natCast_nonneg _
    have q1 : (k : Int) < (row.length : Int) := Int.ofNat_lt.2 hkl
    have hw : wrap64 ((k : Int) + 1) = ((k + 1 : Nat) : Int) := by rw [w64 (by omega) (by omega)]; omega
    have hkd : k + 1 + d = row.length := by omega
    clear hk
    rw [List.drop_eq_getElem_cons hkl, ← rdI row k hkl] at h
    obtain ⟨hV, hS, h⟩ := h.inv
    have h3 := hV.b0
    have h4 := hV.b1
    simp only at h3 h4
    obtain ⟨y, hy⟩ : ∃ y : Nat, rd row (k : Int) = y := ⟨(rd row (k : Int)).toNat, by omega⟩
    rw [hy] at h hV h4
    have hp := pos_lt (m := m) (x := i) (y := y) hi (by omega)
    have hym : y < m := Int.ofNat_lt.1 h4
    have hf := hM.2 i y hi hym
    have q2 : (0 : Int) ≤ ((i * m + y : Nat) : Int) := Int.natCast_nonneg _
    have q3 : ((i * m + y : Nat) : Int) < (face.length : Int) := by rw [hM.1]; exact Int.ofNat_lt.2 hp
    have q4 := pos_w hm hi hym
    rcases h with ⟨hin, h⟩ | ⟨hout, hn, S1, hwk, h⟩
    · have h1 := ih (k + 1) hkd S R n r h face hM next
      rw [← hw] at h1
      have h2 : Ev (fun f => teamsterref_Faces.l2 f round (m : Int) face (n : Int) (i : Int) (i : Int) (y : Int) row (row.length : Int) (k : Int)) V := by
        refine Ev.step (fun f => ?_) h1
        conv => lhs; rw [teamsterref_Faces.l2]
        rw [q4, if_pos q2, if_pos q3, if_neg (fun e => hf.1 e hin)]
      refine Ev.step (g := fun f => teamsterref_Faces.j3 f round (m : Int) face (n : Int) (i : Int) (i : Int) (y : Int) row (row.length : Int) (k : Int)) (fun f => ?_) (Ev.step (fun f => ?_) h2)
      · conv => lhs; rw [teamsterref_Faces.l1]
        rw [if_pos q1, if_pos q0, if_pos q1, hy, q4, if_pos q2, if_pos q3, if_neg (fun e => hf.1 e hin)]
      · rw [teamsterref_Faces.j3]
    · have hnw := nat_w n hn
      have h2 := ref_l2 hm hrl hl ((n + 1 : Nat) : Int) (i : Int) (Int.ofNat_ne_zero.2 (Nat.succ_ne_zero n)) row (row.length : Int) (k : Int) V hwk face hM (fun face1 hM1 => by rw [hw]; exact ih (k + 1) hkd S1 R (n + 1) r h face1 hM1 next)
      refine Ev.step (g := fun f => teamsterref_Faces.j3 f round (m : Int) face ((n + 1 : Nat) : Int) (i : Int) (i : Int) (y : Int) row (row.length : Int) (k : Int)) (fun f => ?_) (Ev.step (fun f => ?_) h2)
      · conv => lhs; rw [teamsterref_Faces.l1]
        rw [if_pos q1, if_pos q0, if_pos q1, hy, q4, if_pos q2, if_pos q3, if_pos (hf.2 hout), hnw]
      · rw [teamsterref_Faces.j3]

set_option maxHeartbeats 4000000 in
theorem ref_l0 {m : Nat} (hm : m ≤ 10) {round : List (List Int)} (hrl : round.length = m) (hl : ∀ b : Int, (rd_L4 round b).length ≤ 1000) (r : Nat) :
    ∀ d i, i + d = m → ∀ (S : List Dart) (n : Nat), AllW m round i S n r → ∀ face, Marks m face S → Ev (fun f => teamsterref_Faces.l0 f round (m : Int) face (n : Int) (i : Int)) (r : Int) := by
  intro d
  induction d with
  | zero =>
    intro i hi S n h face hM
    rcases h.inv with ⟨_, rfl⟩ | ⟨h1, _⟩ | ⟨h1, _⟩
    · refine Ev.step (g := fun _ => some (r : Int)) (fun f => ?_) (.const _)
      rw [teamsterref_Faces.l0, if_neg (by omega)]
    · omega
    · omega
  | succ d ih =>
    intro i hi S n h face hM
    rcases h.inv with ⟨h1, _⟩ | ⟨h1, he, hn, h⟩ | ⟨h1, he, hlr, R, n1, hR, h⟩
    · omega
    · have hnw : wrap64 ((n : Int) + 1) = ((n + 1 : Nat) : Int) := by rw [w64 (by omega) (by omega)]; omega
      have h2 := ref_l1 hm hrl hl i h1 [] (by simp) (r : Int) 0 0 rfl S S (n + 1) (n + 1) .nil face hM (fun face1 hM1 => ih (i + 1) (by omega) S (n + 1) h face1 hM1)
      refine Ev.step (g := fun f => teamsterref_Faces.j1 f round (m : Int) face ((n + 1 : Nat) : Int) (i : Int)) (fun f => ?_) (Ev.step (fun f => ?_) h2)
      · conv => lhs; rw [teamsterref_Faces.l0]
        rw [if_pos (by omega), if_pos (by omega), if_pos (by omega), he, if_pos (by simp), hnw]
      · rw [teamsterref_Faces.j1, if_pos (by omega), if_pos (by omega), he]
        rfl
    · have hlen : ((rd_L4 round (i : Int)).length : Int) ≠ 0 := fun e => he (List.length_eq_zero_iff.1 (by omega))
      have h2 := ref_l1 hm hrl hl i h1 (rd_L4 round (i : Int)) (hl _) (r : Int) (rd_L4 round (i : Int)).length 0 (by omega) S R n n1 hR face hM (fun face1 hM1 => ih (i + 1) (by omega) R n1 h face1 hM1)
      refine Ev.step (g := fun f => teamsterref_Faces.j1 f round (m : Int) face (n : Int) (i : Int)) (fun f => ?_) (Ev.step (fun f => ?_) h2)
      · conv => lhs; rw [teamsterref_Faces.l0]
        rw [if_pos (by omega), if_pos (by omega), if_pos (by omega), if_neg hlen]
      · rw [teamsterref_Faces.j1, if_pos (by omega), if_pos (by omega)]
        rfl

theorem ref_faces {m : Nat} (hm : m ≤ 10) {round : List (List Int)} (hrl : round.length = m) (hl : ∀ b : Int, (rd_L4 round b).length ≤ 1000) (l : List S57) {r : Nat} (h : AllW m round 0 [] 0 r) : Ev (fun k => teamsterref_Faces.f k (m : Int) l round) (r : Int) := by
  have h2 : m * m ≤ 100 := Nat.mul_le_mul hm hm
  have hw : wrap64 ((m : Int) * (m : Int)) = ((m * m : Nat) : Int) := by rw [← Int.natCast_mul, w64 (by omega) (by omega)]
  have h0 := ref_l0 hm hrl hl r m 0 (by omega) [] 0 h (List.replicate (m * m) 0) (marks_nil m)
  refine Ev.congr (fun k => ?_) h0
  unfold teamsterref_Faces.f
  rw [hw, if_pos (by omega), Int.toNat_natCast, if_pos (by omega)]
  rfl

end Go.Proofs.YtoblkmbmacimiaaDoor.L

namespace Go.Proofs.YtoblkmbmacimiaaDoor.MapsFaces
open Go.ChangeShapes Go.WideShapes Go.RowKit Go.Deep Go.Joins
open Go.Proofs.YtoblkmbmacimiaaDoorW.PrintWords Go.Proofs.YtoblkmbmacimiaaDoor.G Go.Proofs.YtoblkmbmacimiaaDoor.O

/-- What is to be shown of plain numbers and lists. -/
def Pure : Prop := ∀ (n : Int) (l : List S57) (x : List (List Int)), W64 n → (∀ e ∈ l, Wf57 e) → (∀ r ∈ x, r.length * 8 ≤ 140737488355328) → ∃ k, teamsterlaw_MapsFaces.f k n l x = some true

set_option maxRecDepth 100000 in
theorem lifted (hP : Pure) (os : Os) (started : os.Started) (H : Type) (enc : TypeId × Value → H) :
    ReturnsInHanded {} Tryd.checked os 9 .any (fun w args => (Rows.mapsFacesSpec.pre enc Tryd.prog Tryd.f9 [] false w args ∧ laidMetH Tryd.prog laidTab w) ∧ sizedMet enc Tryd.prog Tryd.f9 (OpenSpec.ofChange Rows.mapsFacesSpec) false w args)
      (Rows.mapsFacesSpec.post enc Tryd.prog Tryd.f9 false true false false) := by
  refine returnsInHanded_of_change_and (C := Tryd.checked) (X := fun w _ => laidMetH Tryd.prog laidTab w) (fun _ _ _ hh h => h.of_heap hh) own started (by kernel_rfl) Tryd.func9
    (ChangeSpec.witness_at (enc := enc) (C := Tryd.checked) (os := os) (X := fun w _ => laidMetH Tryd.prog laidTab w) false (laidWorld os) #[.agg #[.int .i64 0, .slice none 0 0], .slice none 0 0] 9 rfl (by kernel_rfl) (by kernel_rfl) (by kernel_rfl) (by kernel_rfl) (by kernel_rfl) (laidWorld_met os _)) ?_
  intro W base args ds gs before hval0 hW _ hsz0 hL _
  have hval : ∀ (j : Nat) t v, Tryd.f9.params[j]? = some t → args[j]? = some v → Value.okWide Tryd.prog W .any base t v := hval0
  have hW' := hW
  obtain ⟨p, q, hA0, hV0, rfl, hfz, hnd⟩ := hW
  have hA : DataW.TrodAll enc Tryd.prog W 0 (fun _ => true) true Tryd.f9.params.toList args.toList ds p := hA0
  have hV : DataW.TrodVars enc Tryd.prog W (fun _ => true) [] gs q := hV0
  rw [Tryd.params9] at hA hval
  obtain ⟨v0, v1, d0, d1, p0, p1, rfl, rfl, rfl, h0, h1⟩ := trodAll_two hA
  obtain ⟨n, A, c, l, rfl, hC, hlc, wn, wl⟩ := graph_open (hval 0 24 v0 rfl rfl) h0
  have hsz : (DataW.weightsEach Tryd.prog (Tryd.f9.params.toList ++ Rows.mapsFacesSpec.plain.varTypes Tryd.prog) ([d0, d1] ++ gs)).all (· ≤ reachBytes) = true := hsz0
  have hlight : Light Tryd.prog 44 d1 := fun m hm => by
    have := List.all_eq_true.1 hsz _ (DataW.weights_mem_each (j := 1) (t := 44) (d := d1) rfl rfl m hm)
    simpa using this
  obtain ⟨Ax, cx, x, rfl, hCx, hlx, wx0⟩ := rows_open (hval 1 44 v1 rfl rfl) h1 hlight
  have wx : ∀ r ∈ x, r.length * 8 ≤ 140737488355328 := fun r hr => (wx0 r hr).le
  have hT := tab_of_laid hL
  obtain ⟨rfl, rfl⟩ := trodVars_none hV
  have lt0 : ∀ x ∈ p0, x.block < W.heap.size := by obtain ⟨m, hm⟩ := h0; exact DataW.trod_lt m _ _ _ hm
  have lt1 : ∀ x ∈ p1, x.block < W.heap.size := by obtain ⟨m, hm⟩ := h1; exact DataW.trod_lt m _ _ _ hm
  obtain ⟨k, hk⟩ := hP n l x wn wl wx
  refine (teamsterlaw_MapsFaces.calls k n A c l Ax cx x true W hC hlc hCx hlx hk hT).mono fun e W' ⟨he, bel⟩ => ?_
  subst he
  exact ⟨_, rfl, _, _, _, [], _, [], hW', trodAll_mk1 (shut_bool Tryd.underlying4 _), trodAll_mk2 (Below.trod O.laidOut (by kernel_rfl) (of_decide_eq_true (by kernel_rfl)) h0 bel lt0) (Below.trod O.laidOut (by kernel_rfl) (of_decide_eq_true (by kernel_rfl)) h1 bel lt1), rfl, bel.frame _, fun h => by cases h⟩

theorem over (hP : Pure) : Rows.MapsFacesSaid :=
  OpenClaim.holds_of_wide 9 Tryd.f9 rfl rfl rfl rfl rfl rfl rfl ⟨rfl, rfl, rfl, rfl, rfl⟩ rfl rfl rfl rfl rfl (by kernel_rfl) Tryd.func9 (by kernel_rfl)
    (of_decide_eq_true (by kernel_rfl)) (by unfold Func.isWrapper; first | (rw [if_pos (by decide +kernel)]; kernel_rfl) | (rw [if_neg (by decide +kernel)]; exact ⟨rfl, rfl⟩))
    (fun os started H enc _ => lifted hP os started H enc)

theorem card (hP : Pure) : Rows.MapsFacesCardSaid :=
  Claim7.holds_tied_plain_at .later [] [.data] true (true, "8e37339f3037b40ea62d8f5b33dfcf41237953a8c573e0f2231edaaf7e6c351e") false
    (over hP) (fun _ h => by cases h) (by kernel_rfl) (fun _ h => by cases h) mapsFaces_row_tie rfl ⟨rfl, rfl⟩ (by kernel_rfl) rfl
    (fun f fn hf hfn => by
      obtain rfl : f = 9 := Option.some.inj ((show Tryd.prog.funcNamed "teamster/teamsterlaw.MapsFaces" = some 9 by kernel_rfl).symm.trans hf) |>.symm
      obtain rfl : fn = Tryd.f9 := (Option.some.inj (Tryd.func9.symm.trans hfn)).symm
      exact ⟨by kernel_rfl, fun j t ht => by
        rw [Tryd.params9] at ht
        rcases j with _ | _ | j
        · obtain rfl : t = 24 := by simpa using ht.symm
          exact (show Tryd.prog.wantsStandIn 24 = false by kernel_rfl)
        · obtain rfl : t = 44 := by simpa using ht.symm
          exact (show Tryd.prog.wantsStandIn 44 = false by kernel_rfl)
        · simp at ht⟩)
    (by kernel_rfl)

end Go.Proofs.YtoblkmbmacimiaaDoor.MapsFaces

namespace Go.Proofs.YtoblkmbmacimiaaDoor
open Go Go.RowKit L Go.Proofs.YtoblkmbmacimiaaDoorW.PrintWords Go.Proofs.YtoblkmbmacimiaaDoorW.PrintMore Go.Proofs.YtoblkmbmacimiaaDoor.B Go.Proofs.YtoblkmbmacimiaaDoor.G Go.Proofs.YtoblkmbmacimiaaDoor.O

namespace L
/-- What a map that may be is. -/
structure MapOk (m : Nat) (l : List S57) (round : List (List Int)) : Prop where
  g : Good m l
  apart : (E l).Pairwise (fun f e => ¬ SameE f e)
  len : round.length = m
  rows : ∀ v, v < m → nbword (E l) v < 4294967296 ∧ rowOk l v (rd_L4 round (v : Int)) ∧ srt (rd_L4 round (v : Int)) = ints (bitsOf (nbword (E l) v))
theorem mapOk_of {n : Int} {l : List S57} {round : List (List Int)} (h : maps_Check.f n l round = some 0) : ∃ m : Nat, n = m ∧ MapOk m l round := by
  unfold maps_Check.f at h
  by_cases hc : gcheck n l = 0
  · rw [if_neg (fun h => h hc)] at h
    by_cases hrl : (round.length : Int) = n
    · rw [if_neg (fun h => h hrl)] at h
      split at h
      case isFalse => cases h
      obtain ⟨m, rfl, g⟩ := good_of hc
      have hp := good_apart hc g
      have hall : (List.range m).all (roundB (E l) round) = true := by
        simp only [Int.toNat_natCast, Option.some.injEq] at h
        by_cases ha : (List.range m).all (roundB (E l) round) = true
        · exact ha
        · rw [if_neg ha] at h; cases h
      refine ⟨m, rfl, g, hp, by omega, fun v hv => ?_⟩
      have hu : nbword (E l) v < 4294967296 := by
        have h10 := g.n10
        refine Nat.lt_of_lt_of_le (Nat.lt_pow_two_of_testBit (n := 10) _ fun i hi => ?_) (by decide)
        cases hb : (nbword (E l) v).testBit i
        · rfl
        · have := nbr_lt10 g ((nbword_bit v _ i).1 hb); omega
      have hs : srt (rd_L4 round (v : Int)) = ints (bitsOf (nbword (E l) v)) := by simpa [roundB] using List.all_eq_true.1 hall v (List.mem_range.2 hv)
      exact ⟨hu, (row_iff g hp v hu _).2 hs, hs⟩
    · rw [if_pos hrl] at h; cases h
  · rw [if_pos hc] at h; simp only [Option.some.injEq] at h; exact absurd h hc
theorem MapOk.mem {m : Nat} {l : List S57} {round : List (List Int)} (h : MapOk m l round) {v : Nat} (hv : v < m) (b : Int) : b ∈ rd_L4 round (v : Int) ↔ ∃ j : Nat, b = j ∧ nbr (E l) v j := by
  obtain ⟨h1, _, h2⟩ := h.rows v hv
  have : b ∈ srt (rd_L4 round (v : Int)) ↔ b ∈ rd_L4 round (v : Int) := List.mem_mergeSort
  rw [← this, h2]
  unfold ints
  rw [List.mem_map]
  constructor
  · rintro ⟨j, hj, rfl⟩; exact ⟨j, rfl, (nbword_bit v _ j).1 ((mem_bitsOf _ h1 j).1 hj)⟩
  · rintro ⟨j, rfl, hj⟩; exact ⟨j, (mem_bitsOf _ h1 j).2 ((nbword_bit v _ j).2 hj), rfl⟩
theorem nbr_symm {es : List (Nat × Nat)} {i j : Nat} (h : nbr es i j) : nbr es j i := by
  obtain ⟨e, he, h⟩ := h
  exact ⟨e, he, h.symm⟩
theorem MapOk.sym {m : Nat} {l : List S57} {round : List (List Int)} (h : MapOk m l round) : Sym m round := by
  intro a b ha hb
  obtain ⟨j, rfl, hj⟩ := (h.mem ha b).1 hb
  have hjm := nbr_lt10 h.g hj
  exact ⟨by omega, by omega, (h.mem hjm _).2 ⟨a, rfl, nbr_symm hj⟩⟩
theorem MapOk.short {m : Nat} {l : List S57} {round : List (List Int)} (h : MapOk m l round) (b : Int) : (rd_L4 round b).length ≤ 1000 := by
  by_cases hb : b.toNat < m
  · have h2 := (h.rows _ hb).2.1.1
    have h3 : deg (E l) b.toNat ≤ (E l).length := List.countP_le_length
    have h4 : (E l).length = l.length := by unfold E; rw [List.length_map]
    have h5 := h.g.len
    have h6 : rd_L4 round (b.toNat : Int) = rd_L4 round b := by unfold rd_L4; rw [Int.toNat_natCast]
    rw [h6] at h2
    omega
  · unfold rd_L4
    rw [List.getD_eq_getElem?_getD, List.getElem?_eq_none (by have := h.len; omega)]
    simp
theorem MapOk.faces {m : Nat} {l : List S57} {round : List (List Int)} (h : MapOk m l round) : ∃ r : Nat, maps_faces.f round = some (r : Int) ∧ AllW m round 0 [] 0 r := by
  have h10 := h.g.n10
  have hl := h.len
  subst hl
  exact maps_faces.f_is h10 h.short (all_is h10 h.sym h.short round.length 0 [] 0 (by omega) fits_nil (by omega))

theorem pure_faces : MapsFaces.Pure := by
  intro n l round _ _ hr
  obtain ⟨r, h1, h2⟩ := map_check_is n l round hr
  refine Ev.get (v := true) ?_
  unfold teamsterlaw_MapsFaces.f maps_Faces.f
  rw [h1]
  by_cases h0 : r = 0
  · subst h0
    obtain ⟨m, rfl, hm⟩ := mapOk_of h1
    obtain ⟨r, hf, hw⟩ := hm.faces
    refine Ev.congr (g := fun k => (teamsterref_MapCheck.f k (m : Int) l round).bind fun t537 => if t537 = 0 then ((teamsterref_Faces.f k (m : Int) l round).bind fun t538 => some ((r : Int) == t538)) else (if 0 = t537 then some ((r : Int) == 0) else some false)) (fun k => by simp [hf]) ?_
    refine Ev.bind h2 ?_
    simp only [if_true]
    refine Ev.bind (ref_faces hm.g.n10 hm.len hm.short l hw) (.of_eq fun _ => by simp)
  · refine Ev.congr (g := fun k => (teamsterref_MapCheck.f k n l round).bind fun t537 => if t537 = 0 then (if r = 0 then ((teamsterref_Faces.f k n l round).bind fun t538 => some ((0 : Int) == t538)) else some false) else (if r = t537 then some ((0 : Int) == 0) else some false)) (fun k => by simp [h0]) ?_
    refine Ev.bind h2 (.of_eq fun _ => by simp [h0])
end L

theorem mapsFaces : Rows.MapsFacesCardSaid := MapsFaces.card L.pure_faces

end Go.Proofs.YtoblkmbmacimiaaDoor
