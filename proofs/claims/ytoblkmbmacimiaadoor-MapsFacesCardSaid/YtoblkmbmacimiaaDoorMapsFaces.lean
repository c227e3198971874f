/- The walk round a map's faces, in plain Lean: which sides are marked, and how many rounds. A map from darts to numbers, of the call's own: what it tells. The walk of maps.next: who comes along a side goes on. The walk of maps.faces. -/
import Derived.Test.YtoblkmbmacimiaaDoorMapCheck
import Derived.Test.YtoblkmbmacimiaaDoorGslicesIndexintint
import Derived.Test.YtoblkmbmacimiaaDoorGteamsterrefFaces
import Derived.Test.YtoblkmbmacimiaaDoorCheck
import Derived.Test.YtoblkmbmacimiaaDoorPlain
import Derived.RegionTactic

namespace Go.Proofs.YtoblkmbmacimiaaDoor.L
open Go Go.RowKit Go.Proofs.YtoblkmbmacimiaaDoor.B Go.Proofs.YtoblkmbmacimiaaDoorW.PrintWords Go.Proofs.YtoblkmbmacimiaaDoorW.PrintMore Go.Proofs.YtoblkmbmacimiaaDoor.G

abbrev Dart := Int × Int
/-- A side of a map: both ends in it, and the far one has the near one in its round. -/
structure Vd (m : Nat) (round : List (List Int)) (d : Dart) : Prop where
  a0 : 0 ≤ d.1
  a1 : d.1 < m
  b0 : 0 ≤ d.2
  b1 : d.2 < m
  mem : d.1 ∈ rd_L4 round d.2
/-- Which place is next. -/
def nxtI (l : List Int) (a : Int) : Nat := (l.idxOf a + 1) % l.length
def nxt (round : List (List Int)) (d : Dart) : Dart := (d.2, rd (rd_L4 round d.2) (nxtI (rd_L4 round d.2) d.1 : Int))
inductive Walk (m : Nat) (round : List (List Int)) : List Dart → Dart → List Dart → Prop
  | done {S : List Dart} {d : Dart} (hd : Vd m round d) (h : d ∈ S) : Walk m round S d S
  | step {S R : List Dart} {d : Dart} (hd : Vd m round d) (h : d ∉ S) (hS : S.length < 100) (t : Walk m round (d :: S) (nxt round d) R) : Walk m round S d R
/-- Row i from its place k on: from these marks and so many rounds to those. -/
inductive RowW (m : Nat) (round : List (List Int)) (i : Int) : List Int → List Dart → Nat → List Dart → Nat → Prop
  | nil {S : List Dart} {n : Nat} : RowW m round i [] S n S n
  | old {S R : List Dart} {n r : Nat} {j : Int} {t : List Int} (hd : Vd m round (i, j)) (h : (i, j) ∈ S) (hS : S.length ≤ 100) (k : RowW m round i t S n R r) : RowW m round i (j :: t) S n R r
  | new {S S1 R : List Dart} {n r : Nat} {j : Int} {t : List Int} (hd : Vd m round (i, j)) (h : (i, j) ∉ S) (hS : S.length ≤ 100) (hn : n < 100000) (w : Walk m round S (i, j) S1) (k : RowW m round i t S1 (n + 1) R r) : RowW m round i (j :: t) S n R r
inductive AllW (m : Nat) (round : List (List Int)) : Nat → List Dart → Nat → Nat → Prop
  | nil {S : List Dart} {n : Nat} : AllW m round m S n n
  | none {S : List Dart} {i n r : Nat} (hi : i < m) (h : rd_L4 round (i : Int) = []) (hn : n < 100000) (k : AllW m round (i + 1) S (n + 1) r) : AllW m round i S n r
  | row {S R : List Dart} {i n n1 r : Nat} (hi : i < m) (h : rd_L4 round (i : Int) ≠ []) (hl : (rd_L4 round (i : Int)).length ≤ 1000) (w : RowW m round (i : Int) (rd_L4 round (i : Int)) S n R n1) (k : AllW m round (i + 1) R n1 r) : AllW m round i S n r

theorem nxtI_lt {l : List Int} {a : Int} (h : a ∈ l) : nxtI l a < l.length := Nat.mod_lt _ (List.length_pos_of_mem h)
theorem idx_lt {l : List Int} {a : Int} (h : a ∈ l) : l.idxOf a < l.length := List.idxOf_lt_length_iff.2 h
theorem idx_at {l : List Int} {a : Int} (h : a ∈ l) : rd l (l.idxOf a : Int) = a := by
  rw [rdI l _ (idx_lt h)]; simp
theorem idx_before {l : List Int} {a : Int} {i : Nat} (h : i < l.idxOf a) : rd l (i : Int) ≠ a := by
  have hl : i < l.length := Nat.lt_of_lt_of_le h List.idxOf_le_length
  rw [rdI l i hl]
  intro he
  have := List.not_of_lt_findIdx (xs := l) (p := fun x => x == a) (i := i) h
  simp [he] at this

theorem index_is (l : List Int) (a : Int) (h : a ∈ l) (hl : l.length < 4611686018427387904) : ∃ k, slices_Index_int_int.f k l a = some (l.idxOf a : Int) := by
  have hlt := idx_lt h
  suffices H : ∀ d i, i + d = l.idxOf a → Ev (fun k => slices_Index_int_int.l0 k l a (l.length : Int) (i : Int)) (l.idxOf a : Int) from (H (l.idxOf a) 0 (by omega)).get
  intro d
  induction d with
  | zero =>
    intro i hi
    have e : rd l (i : Int) = a := by rw [show i = l.idxOf a by omega]; exact idx_at h
    refine Ev.step (g := fun _ => some (i : Int)) (fun k => ?_) (.of_eq fun _ => by rw [show i = l.idxOf a by omega])
    rw [slices_Index_int_int.l0, if_pos (by omega), if_pos (by omega), if_pos (by omega), if_pos e.symm]
  | succ d ih =>
    intro i hi
    have hw : wrap64 ((i : Int) + 1) = ((i + 1 : Nat) : Int) := by rw [w64 (by omega) (by omega)]; omega
    refine Ev.step (fun k => ?_) (ih (i + 1) (by omega))
    conv => lhs; rw [slices_Index_int_int.l0]
    rw [if_pos (by omega), if_pos (by omega), if_pos (by omega), if_neg (fun e => idx_before (by omega) e.symm), hw]

end Go.Proofs.YtoblkmbmacimiaaDoor.L

namespace Go.Proofs.YtoblkmbmacimiaaDoor.G
open Go.RowKit Go.Proofs.YtoblkmbmacimiaaDoorW.PrintWords Go.Proofs.YtoblkmbmacimiaaDoorW.PrintLast Go.Proofs.YtoblkmbmacimiaaDoorW.PrintMore
open Go.Maps

theorem row108 : (108 : TypeId) < Tryd.prog.types.size := of_decide_eq_true (by kernel_rfl)
theorem klaw108 : WideMaps.KeyLaw Tryd.prog 108 := deep_law_laid laidOut (m := 2) (by omega) row108 (by kernel_rfl) (by kernel_rfl)
theorem law108 : Keyed Tryd.prog 108 := Keyed.of_law klaw108
theorem cells108 : Tryd.prog.cellsOf 108 = 2 := by kernel_rfl
theorem keyType108 : Tryd.prog.keyType 108 = true := by kernel_rfl

theorem lits108 (d : Nat) (a b : Int) (ha : (Lit.int .i64 a).wf = true) (hb : (Lit.int .i64 b).wf = true) : Tryd.prog.keyLits (d + 2) 108 [.int .i64 a, .int .i64 b] = some [.int .i64 a, .int .i64 b] := by
  unfold Program.keyLits
  rw [Tryd.underlying108]
  simp [cells108, cells3, lits3 d a ha, lits3 d b hb]
theorem key108 (a b : Int) (ha : (Lit.int .i64 a).wf = true) (hb : (Lit.int .i64 b).wf = true) : keyOf Tryd.prog 108 (.agg #[.int .i64 a, .int .i64 b]) = some (.string (keyBytes [.int .i64 a, .int .i64 b])) := by
  have hf : (Value.agg #[.int .i64 a, .int .i64 b]).formed Tryd.prog 108 = true := by simp only [Value.formed, Tryd.underlying108, cells108]; rfl
  obtain ⟨d, hd⟩ : ∃ d, Tryd.prog.types.size + 1 = d + 2 := ⟨Tryd.prog.types.size - 1, by have h : (108 : Nat) < Tryd.prog.types.size := row108; omega⟩
  unfold keyOf
  rw [Tryd.underlying108]
  simp only [keyType108, hf, Bool.and_self, if_true, hd]
  rw [show (Value.agg #[.int .i64 a, .int .i64 b]).cells.toList = [.int .i64 a, .int .i64 b] from rfl, lits108 d a b ha hb]
  rfl

def klD (x y : Int) : Lit := .string (keyBytes [.int .i64 x, .int .i64 y])
theorem klD_inj {a b c d : Int} (ha : I64 a) (hb : I64 b) (hc : I64 c) (hd : I64 d) (h : klD a b = klD c d) : a = c ∧ b = d := by
  have h1 := key108 a b ha hb
  have h2 := key108 c d hc hd
  rw [show Lit.string (keyBytes [.int .i64 c, .int .i64 d]) = klD c d from rfl, ← h] at h2
  have := law108.inj h1 h2
  simpa using this

/-- The map in block b: of at most n entries; of two nodes it tells f of them. -/
def DM (W : World) (b n : Nat) (f : Int → Int → Int) : Prop :=
  ∃ D : DataW Unit, W.ownsMap Tryd.prog 108 (plainElem Tryd.prog 3) b n D ∧ IsMap D ∧ ∀ x y, I64 x → I64 y → D.atKey (klD x y) (.lit (.int .i64 0)) = .lit (.int .i64 (f x y))

theorem DM.made (W : World) : DM (W.alloc (.map #[] 0)) W.heap.size 0 (fun _ _ => 0) := ⟨_, World.ownsMap_made W _ _ _, isMap_empty, fun _ _ _ _ => rfl⟩
theorem DM.kept {W W' : World} {b n : Nat} {f : Int → Int → Int} {row : Option Nat} (h : DM W b n f) (hg : W.grownBy W' row) (hne : some b ≠ row) : DM W' b n f := by
  obtain ⟨D, h1, h2⟩ := h
  exact ⟨D, h1.kept hg hne, h2⟩
theorem DM.move {W W' : World} {b n : Nat} {f : Int → Int → Int} (h : DM W b n f) (he : W'.heap[b]? = W.heap[b]?) : DM W' b n f := by
  obtain ⟨D, ⟨es, clock, hb, F, hs, hD⟩, h2⟩ := h
  exact ⟨D, ⟨es, clock, he.trans hb, F, hs, hD⟩, h2⟩
theorem DM.lt {W : World} {b n : Nat} {f : Int → Int → Int} (h : DM W b n f) : b < W.heap.size := by
  obtain ⟨D, h1, _⟩ := h
  exact h1.lt
theorem DM.below {W W' : World} {b n : Nat} {f : Int → Int → Int} (h : DM W b n f) (hb : Below W.heap.size W W') : DM W' b n f := h.move (hb.block b h.lt)
theorem DM.look {W : World} {b n : Nat} {f : Int → Int → Int} (h : DM W b n f) (x y : Int) (hx : I64 x) (hy : I64 y) :
    (Instr.lookup 106 (.map (some b)) (.agg #[.int .i64 x, .int .i64 y]) false).run Tryd.prog W = .ok (.int .i64 (f x y)) W := by
  obtain ⟨D, h1, h2, h3⟩ := h
  obtain ⟨c, hrun, hat, hw⟩ := h1.lookup_int law108 Tryd.underlying106 Tryd.underlying3 (zero3 W) (key108 x y hx hy)
  have := h3 x y hx hy
  unfold klD at this
  rw [hat] at this
  have e : f x y = c := by simpa using this.symm
  rw [e]
  exact hrun
theorem DM.update {W : World} {b n : Nat} {f : Int → Int → Int} (h : DM W b n f) (hn : n < maxLen) (x y v : Int) (hx : I64 x) (hy : I64 y) (hv : I64 v) :
    ∃ w', (Instr.mapUpdate 106 (.map (some b)) (.agg #[.int .i64 x, .int .i64 y]) (.int .i64 v)).run Tryd.prog W = .ok () w' ∧ DM w' b (n + 1) (fun x' y' => if x' = x ∧ y' = y then v else f x' y') ∧ W.grownBy w' (some b) := by
  obtain ⟨D, h1, h2, h3⟩ := h
  obtain ⟨w', hrun, ho, hg⟩ := h1.update law108 Tryd.underlying106 hn (key108 x y hx hy) (plainElem_int Tryd.underlying3 hv)
  refine ⟨w', hrun, ⟨_, ho, h2.put _ _, fun x' y' hx' hy' => ?_⟩, hg⟩
  show (D.put (klD x y) (.lit (.int .i64 v))).atKey (klD x' y') (.lit (.int .i64 0)) = .lit (.int .i64 (if x' = x ∧ y' = y then v else f x' y'))
  by_cases he : x' = x ∧ y' = y
  · rw [if_pos he, he.1, he.2]
    exact atKey_put_same h2 (law108.key (key108 x y hx hy)) _ _
  · rw [if_neg he, ← h3 x' y' hx' hy']
    exact atKey_put_other (fun e => he (klD_inj hx' hy' hx hy e)) _ _

/-- 'm[k] op= v': the entry is laid, then stored into; between the two the map tells what it told. -/
theorem DM.entry {W : World} {b n : Nat} {f : Int → Int → Int} (h : DM W b n f) (hn : n < maxLen) (x y : Int) (hx : I64 x) (hy : I64 y) :
    ∃ (st : Nat) (W2 : World), (Instr.mapEntry 106 (.map (some b)) (.agg #[.int .i64 x, .int .i64 y])).run Tryd.prog W = .ok (.tuple #[.int .i64 (f x y), goInt st]) W2 ∧ DM W2 b (n + 1) f ∧ W.grownBy W2 (some b) ∧
      ∀ (W3 : World) (v : Int), W3.heap[b]? = W2.heap[b]? → I64 v → ∃ W4, (Instr.entryStore 106 (.map (some b)) (goInt st) (.int .i64 v)).run Tryd.prog W3 = .ok () W4 ∧
        DM W4 b (n + 1) (fun x' y' => if x' = x ∧ y' = y then v else f x' y') ∧ W3.grownBy W4 (some b) := by
  have hup := fun v hv => h.update hn x y v hx hy hv
  have hlook := h.look x y hx hy
  obtain ⟨D, ⟨es, clock, hb, F, hs, hD⟩, h2, h3⟩ := h
  have hkey := key108 x y hx hy
  obtain ⟨v0, st, es1, clock1, hE, hv0, hS⟩ := WideElems.entry_then_store klaw108 Tryd.underlying106 zero3 hb F hkey
  have hW2 : (ChangeMaps.setBlock W b (.map es1 clock1)).heap[b]? = some (.map es1 clock1) := ChangeMaps.heap_setBlock_same hb _
  have fin : ∀ (W3 : World) (v : Int), W3.heap[b]? = (ChangeMaps.setBlock W b (.map es1 clock1)).heap[b]? → I64 v → ∃ W4, (Instr.entryStore 106 (.map (some b)) (goInt st) (.int .i64 v)).run Tryd.prog W3 = .ok () W4 ∧
        DM W4 b (n + 1) (fun x' y' => if x' = x ∧ y' = y then v else f x' y') ∧ W3.grownBy W4 (some b) := fun W3 v hW3 hv => by
    rw [hW2] at hW3
    obtain ⟨es', clock', hr, hu⟩ := hS W3 (.int .i64 v) hW3
    obtain ⟨w', hrun, hpm, _⟩ := hup v hv
    have hw' : w' = ChangeMaps.setBlock W b (.map es' clock') := by
      have := hrun.symm.trans hu
      injection this
    refine ⟨_, hr, hpm.move ?_, setBlock_grown hW3 _⟩
    rw [hw', ChangeMaps.heap_setBlock_same hW3, ChangeMaps.heap_setBlock_same hb]
  rcases entry_between klaw108 Tryd.underlying106 zero3 hb F hkey hE with ⟨rfl, rfl, hl⟩ | ⟨hl, hu⟩
  · refine ⟨st, _, ?_, ⟨D, ⟨_, _, ChangeMaps.heap_setBlock_same hb _, F, Nat.le_succ_of_le hs, hD⟩, h2, h3⟩, setBlock_grown hb _, fin⟩
    have e := (Result.ok.inj (hl.symm.trans hlook)).1
    rw [← e]; exact hE
  · have e := (Result.ok.inj (hl.symm.trans hlook)).1
    obtain ⟨hu, e1⟩ := hu
    obtain ⟨w', hrun, hpm, hg⟩ := hup 0 (by unfold I64; decide)
    have hw' : w' = ChangeMaps.setBlock W b (.map es1 clock1) := by
      have := hrun.symm.trans hu
      injection this
    have hf0 : f x y = 0 := by rw [e1] at e; simpa using e.symm
    have hff : (fun x' y' => if x' = x ∧ y' = y then 0 else f x' y') = f := by
      funext x' y'
      split
      · rename_i hh; rw [hh.1, hh.2, hf0]
      · rfl
    refine ⟨st, _, ?_, ?_, setBlock_grown hb _, fin⟩
    · rw [← e]; exact hE
    · rw [← hw', ← hff]; exact hpm


end Go.Proofs.YtoblkmbmacimiaaDoor.G

namespace Go.Proofs.YtoblkmbmacimiaaDoor.G
open Go.RowKit Go.Shelf Go.Proofs.YtoblkmbmacimiaaDoorW.PrintWords Go.Proofs.YtoblkmbmacimiaaDoorW.PrintLast Go.Proofs.YtoblkmbmacimiaaDoorW.PrintMore
open Go.Proofs.YtoblkmbmacimiaaDoor.B Go.Proofs.YtoblkmbmacimiaaDoor.L
attribute [local go_sem] Oper.semAt_some

set_option maxHeartbeats 4000000 in
set_option maxRecDepth 100000 in
theorem maps_next.calls (m : Nat) (hm : m ≤ 10) (Ar : Option Addr) (cr : Nat) (round : List (List Int)) (hrl : round.length = m) (a b : Int) (w : World) (hr : Kd.C (Kd.slice 3 (Kd.int .i64)) w Ar round.length round) (hV : Vd m round (a, b)) (hlen : (rd_L4 round b).length ≤ 1000) :
    Calls Tryd.prog 75 #[.slice Ar round.length cr, .agg #[.int .i64 a, .int .i64 b]] w fun e w' => e = .returned (.agg #[.int .i64 (nxt round (a, b)).1, .int .i64 (nxt round (a, b)).2]) ∧ Below w.heap.size w w' := by
  obtain ⟨ha0, ha1, hb0, hb1, hmem⟩ := hV
  simp only at ha0 ha1 hb0 hb1 hmem
  show Calls Tryd.prog 75 _ w fun e w' => e = .returned (.agg #[.int .i64 b, .int .i64 (rd (rd_L4 round b) (nxtI (rd_L4 round b) a : Int))]) ∧ Below w.heap.size w w'
  obtain ⟨adr, A0, c0, rfl, hxr, hl0, hC0⟩ := at_L4 hr b hb0 (by omega)
  have hq := nxtI_lt hmem
  have hp := idx_lt hmem
  obtain ⟨ki, hki⟩ := index_is _ _ hmem (by omega)
  have hqe : Int.tmod ((((rd_L4 round b).idxOf a : Nat) : Int) + 1) ((rd_L4 round b).length : Int) = (nxtI (rd_L4 round b) a : Int) := by
    unfold nxtI
    rw [Int.tmod_eq_emod_of_nonneg (by omega)]; rfl
  generalize nxtI (rd_L4 round b) a = q at *
  generalize (rd_L4 round b).idxOf a = p at *
  have hbr : b < (round.length : Int) := by omega
  generalize rd_L4 round b = row at *
  obtain ⟨ad2, rfl, hx2⟩ := Kd.at_int hC0 (q : Int) (by omega) (by omega)
  rw [Int.toNat_natCast] at hx2
  have hlt2 := World.block_lt_of_cell? w _ hx2
  have hq0 : (0 : Int) ≤ (q : Int) := by omega
  have hq1 : (q : Int) < (row.length : Int) := by omega
  have hz : ((row.length : Int) == 0) = false := beq_eq_false_iff_ne.2 (by omega)
  have hrow : ¬ row = [] := by rintro rfl; simp at hq
  have hfo : Tryd.prog.follows .mixedOrders = true := by kernel_rfl
  have hxr1 : ((w.alloc (Obj.cells #[.int .i64 a, .int .i64 b] 108)).alloc (Obj.cells #[.int .i64 0, .int .i64 0] 108)).cell? (adr.add b.toNat) = some (.slice (some ad2) row.length c0) := ((below_alloc (below_alloc (Below.refl w.heap.size w) _) _).cell (World.block_lt_of_cell? w _ hxr)).trans hxr
  go_enter Tryd.func75, Tryd.ntmps75
  go_wp2
  obtain ⟨w1, hw1⟩ : ∃ w1, (w.alloc (Obj.cells #[.int .i64 a, .int .i64 b] 108)).alloc (Obj.cells #[.int .i64 0, .int .i64 0] 108) = w1 := ⟨_, rfl⟩
  have hB1 : Below w.heap.size w w1 := by rw [← hw1]; exact below_alloc (below_alloc (Below.refl _ _) _) _
  have sz1 : w1.heap.size = w.heap.size + 2 := by rw [← hw1]; simp
  have k0 : w1.heap[w.heap.size]? = some (.cells #[.int .i64 a, .int .i64 b] 108 (0, 0)) := by rw [← hw1]; exact blk_alloc (blk_new _ _) _
  have k1 : w1.heap[w.heap.size + 1]? = some (.cells #[.int .i64 0, .int .i64 0] 108 (0, 0)) := by rw [← hw1]; have := blk_new (w.alloc (Obj.cells #[.int .i64 a, .int .i64 b] 108)) (Obj.cells #[.int .i64 0, .int .i64 0] 108); rwa [World.size_alloc] at this
  have kx : w1.cell? (ad2.add q) = some (.int .i64 (rd row (q : Int))) := (hB1.cell (by simpa using hlt2)).trans (by first | exact hx2 | simpa using hx2)
  have kC : Kd.C (Kd.int .i64) w1 (some ad2) row.length row := Kd.C_below hC0 hB1
  first | rw [hw1] | skip
  have h0 : w.heap.size < w1.heap.size := by omega
  have h1 : w.heap.size + 1 < w1.heap.size := by omega
  have q0 : w1.cell? ⟨w.heap.size, 0, none⟩ = some (.int .i64 a) := (blk_cell k0 0).trans rfl
  have q1 : w1.cell? ⟨w.heap.size, 1, none⟩ = some (.int .i64 b) := (blk_cell k0 1).trans rfl
  refine wp_region_G (S := fun W' => Below w1.heap.size w1 W') (e := 14) hfo ?_
  have hS1 := (Below.refl w1.heap.size w1).drew
  refine takeG (i := 0) (oi := ⟨some 11, .fieldAddr 108 (.tmp 3) 1, 0, _, _, none⟩) (.pointer (some ⟨w.heap.size, 1, none⟩)) (by kernel_rfl) rfl (by kernel_rfl) (by kernel_rfl) (by kernel_rfl) (fun _ _ _ h => h) (Or.inl ⟨by rfl, ?_⟩) hS1 ?_
  · intro W' hS'; go_simp
  simp only [Act.put, List.setIfInBounds_toArray, List.set_cons_zero, List.set_cons_succ]
  refine takeG (i := 1) (oi := ⟨some 12, .load 3 (.tmp 11), 3, _, _, none⟩) (.int .i64 b) (by kernel_rfl) rfl (by kernel_rfl) (by kernel_rfl) (by kernel_rfl) (fun _ _ _ h => h) (Or.inl ⟨by rfl, ?_⟩) hS1 ?_
  · intro W' hS'; have e := (hS'.cell h0).trans q1; go_simp
  simp only [Act.put, List.setIfInBounds_toArray, List.set_cons_zero, List.set_cons_succ]
  refine takeG (i := 2) (oi := ⟨some 13, .move (.tmp 5), 32, _, _, none⟩) (.slice (some ad2) row.length c0) (by kernel_rfl) rfl (by kernel_rfl) (by kernel_rfl) (by kernel_rfl) (fun _ _ _ h => h) (Or.inl ⟨by rfl, ?_⟩) hS1 ?_
  · intro W' hS'; go_simp
  simp only [Act.put, List.setIfInBounds_toArray, List.set_cons_zero, List.set_cons_succ]
  refine takeG (i := 3) (oi := ⟨some 14, .move (.tmp 5), 32, _, _, none⟩) (.slice (some ad2) row.length c0) (by kernel_rfl) rfl (by kernel_rfl) (by kernel_rfl) (by kernel_rfl) (fun _ _ _ h => h) (Or.inl ⟨by rfl, ?_⟩) hS1 ?_
  · intro W' hS'; go_simp
  simp only [Act.put, List.setIfInBounds_toArray, List.set_cons_zero, List.set_cons_succ]
  refine takeG (i := 4) (oi := ⟨some 15, .fieldAddr 108 (.tmp 3) 0, 0, _, _, none⟩) (.pointer (some ⟨w.heap.size, 0, none⟩)) (by kernel_rfl) rfl (by kernel_rfl) (by kernel_rfl) (by kernel_rfl) (fun _ _ _ h => h) (Or.inl ⟨by rfl, ?_⟩) hS1 ?_
  · intro W' hS'; go_simp
  simp only [Act.put, List.setIfInBounds_toArray, List.set_cons_zero, List.set_cons_succ]
  refine takeG (i := 5) (oi := ⟨some 16, .load 3 (.tmp 15), 3, _, _, none⟩) (.int .i64 a) (by kernel_rfl) rfl (by kernel_rfl) (by kernel_rfl) (by kernel_rfl) (fun _ _ _ h => h) (Or.inl ⟨by rfl, ?_⟩) hS1 ?_
  · intro W' hS'; have e := (hS'.cell h0).trans q0; go_simp
  simp only [Act.put, List.setIfInBounds_toArray, List.set_cons_zero, List.set_cons_succ]
  refine takeG (i := 8) (oi := ⟨some 19, .move (.tmp 5), 32, _, _, none⟩) (.slice (some ad2) row.length c0) (by kernel_rfl) rfl (by kernel_rfl) (by kernel_rfl) (by kernel_rfl) (fun _ _ _ h => h) (Or.inl ⟨by rfl, ?_⟩) hS1 ?_
  · intro W' hS'; go_simp
  simp only [Act.put, List.setIfInBounds_toArray, List.set_cons_zero, List.set_cons_succ]
  refine takeG (i := 9) (oi := ⟨some 20, .call { callee := .builtin .len, args := #[.tmp 19], argTypes := #[32] }, 3, _, _, none⟩) (.int .i64 row.length) (by kernel_rfl) rfl (by kernel_rfl) (by kernel_rfl) (by kernel_rfl) (fun _ _ _ h => h) (Or.inl ⟨by rfl, ?_⟩) hS1 ?_
  · intro W' hS'; go_simp
  simp only [Act.put, List.setIfInBounds_toArray, List.set_cons_zero, List.set_cons_succ]
  refine oneG (i := 6) (o := ⟨some 17, .call { callee := .value (.func 80), args := #[.tmp 14, .tmp 16], argTypes := #[32, 3] }, 3, _, _, none⟩) (by kernel_rfl) rfl (by rfl) ?_
  intro K hK
  unfold Oper.wp
  go_simp
  refine (slices_Index_int_int.calls ki (some ad2) c0 row a p w1.drew (Kd.C_below hC0 (hB1.drew)) hl0 hki).mono ?_
  rintro e w2 ⟨rfl, nd, rfl⟩
  have hS2 : Below w1.heap.size w1 (w1.drew.drewN nd) := pw_below_drewN hS1 nd
  generalize w1.drew.drewN nd = w2 at hS2
  refine hK _ _ (.inr hS2) ?_
  clear hK K
  try simp only [Act.put, List.setIfInBounds_toArray, List.set_cons_zero, List.set_cons_succ]
  refine takeG (i := 7) (oi := ⟨some 18, .binOp .add 3 (.tmp 17) (.const (.int .i64 1)) 3, 3, _, _, none⟩) (.int .i64 ((p : Int) + 1)) (by kernel_rfl) rfl (by kernel_rfl) (by kernel_rfl) (by kernel_rfl) (fun _ _ _ h => h) (Or.inl ⟨by rfl, ?_⟩) hS2 ?_
  · intro W' hS'; go_simp; rw [IntKind.wrap_i64]; omega
  simp only [Act.put, List.setIfInBounds_toArray, List.set_cons_zero, List.set_cons_succ]
  refine takeG (i := 10) (oi := ⟨some 21, .binOp .rem 3 (.tmp 18) (.tmp 20) 3, 3, _, _, none⟩) (.int .i64 (q : Int)) (by kernel_rfl) rfl (by kernel_rfl) (by kernel_rfl) (by kernel_rfl) (fun _ _ _ h => h) (Or.inl ⟨by rfl, ?_⟩) hS2 ?_
  · intro W' hS'; go_simp
  simp only [Act.put, List.setIfInBounds_toArray, List.set_cons_zero, List.set_cons_succ]
  refine takeG (i := 11) (oi := ⟨some 22, .indexAddr 32 (.tmp 13) (.tmp 21), 0, _, _, none⟩) (.pointer (some (ad2.add q))) (by kernel_rfl) rfl (by kernel_rfl) (by kernel_rfl) (by kernel_rfl) (fun _ _ _ h => h) (Or.inl ⟨by rfl, ?_⟩) hS2 ?_
  · intro W' hS'; go_simp
  simp only [Act.put, List.setIfInBounds_toArray, List.set_cons_zero, List.set_cons_succ]
  refine takeG (i := 12) (oi := ⟨some 23, .load 3 (.tmp 22), 3, _, _, none⟩) (.int .i64 (rd row (q : Int))) (by kernel_rfl) rfl (by kernel_rfl) (by kernel_rfl) (by kernel_rfl) (fun _ _ _ h => h) (Or.inl ⟨by rfl, ?_⟩) hS2 ?_
  · intro W' hS'; have e := (hS'.cell (World.block_lt_of_cell? _ _ kx)).trans kx; go_simp
  simp only [Act.put, List.setIfInBounds_toArray, List.set_cons_zero, List.set_cons_succ]
  refine takeG (i := 13) (oi := ⟨some 24, .build 108 #[(0, .tmp 12), (1, .tmp 23)], 108, _, _, none⟩) (.agg #[.int .i64 b, .int .i64 (rd row (q : Int))]) (by kernel_rfl) rfl (by kernel_rfl) (by kernel_rfl) (by kernel_rfl) (fun _ _ _ h => h) (Or.inl ⟨by rfl, ?_⟩) hS2 ?_
  · intro W' hS'; go_simp
  simp only [Act.put, List.setIfInBounds_toArray, List.set_cons_zero, List.set_cons_succ]
  refine oneG (i := 14) (o := ⟨none, .store 108 (.tmp 4) (.tmp 24), 0, _, _, none⟩) (by kernel_rfl) rfl (by rfl) ?_
  have k2 : w2.heap[w.heap.size + 1]? = some (.cells #[.int .i64 0, .int .i64 0] 108 (0, 0)) := (hS2.block _ h1).trans k1
  have s0 : w2.cell? ⟨w.heap.size + 1, 0, none⟩ = some (.int .i64 0) := (blk_cell k2 0).trans rfl
  have s1 : w2.frozen? ⟨w.heap.size + 1, 0, none⟩ = false := blk_frozen k2 0
  have k3 : (w2.setCell ⟨w.heap.size + 1, 0, none⟩ (.int .i64 b)).heap[w.heap.size + 1]? = some (.cells #[.int .i64 b, .int .i64 0] 108 (0, 0)) := blk_put k2 0 _ rfl
  have s2 : (w2.setCell ⟨w.heap.size + 1, 0, none⟩ (.int .i64 b)).cell? ⟨w.heap.size + 1, 1, none⟩ = some (.int .i64 0) := (blk_cell k3 1).trans rfl
  have s3 : (w2.setCell ⟨w.heap.size + 1, 0, none⟩ (.int .i64 b)).frozen? ⟨w.heap.size + 1, 1, none⟩ = false := blk_frozen k3 1
  have k4 := blk_put (cs' := #[.int .i64 b, .int .i64 (rd row (q : Int))]) k3 1 (.int .i64 (rd row (q : Int))) rfl
  have hB4 : Below w.heap.size w ((w2.setCell ⟨w.heap.size + 1, 0, none⟩ (.int .i64 b)).setCell ⟨w.heap.size + 1, 1, none⟩ (.int .i64 (rd row (q : Int)))) := below_set (below_set (hB1.trans (hS2.mono hB1.size)) (by simp)) (by simp)
  intro K hK
  unfold Oper.wp
  go_simp
  refine hK _ _ (.inl rfl) ?_
  clear hK K
  refine doneG (by kernel_rfl) ?_ _
  generalize (w2.setCell ⟨w.heap.size + 1, 0, none⟩ (.int .i64 b)).setCell ⟨w.heap.size + 1, 1, none⟩ (.int .i64 (rd row (q : Int))) = w4 at k4 hB4
  go_wp2
  refine bodyPost_ret (results_cell_row rfl _ _ (w.heap.size + 1) 108 #[.int .i64 b, .int .i64 (rd row (q : Int))] (0, 0) _ rfl k4 Tryd.underlying108 rfl (by kernel_rfl)) rfl ?_
  exact ⟨rfl, hB4⟩

end Go.Proofs.YtoblkmbmacimiaaDoor.G

namespace Go.Proofs.YtoblkmbmacimiaaDoor.L
open Go Go.RowKit Go.Proofs.YtoblkmbmacimiaaDoor.B Go.Proofs.YtoblkmbmacimiaaDoorW.PrintWords Go.Proofs.YtoblkmbmacimiaaDoorW.PrintMore Go.Proofs.YtoblkmbmacimiaaDoor.G

theorem Walk.inv {m : Nat} {round : List (List Int)} {S R : List Dart} {d : Dart} (h : Walk m round S d R) : Vd m round d ∧ ((d ∈ S ∧ R = S) ∨ (d ∉ S ∧ S.length < 100 ∧ Walk m round (d :: S) (nxt round d) R)) := by
  cases h with
  | done hd h => exact ⟨hd, .inl ⟨h, rfl⟩⟩
  | step hd h hS t => exact ⟨hd, .inr ⟨h, hS, t⟩⟩
theorem RowW.inv {m : Nat} {round : List (List Int)} {i j : Int} {t : List Int} {S R : List Dart} {n r : Nat} (h : RowW m round i (j :: t) S n R r) :
    Vd m round (i, j) ∧ S.length ≤ 100 ∧ (((i, j) ∈ S ∧ RowW m round i t S n R r) ∨ ((i, j) ∉ S ∧ n < 100000 ∧ ∃ S1, Walk m round S (i, j) S1 ∧ RowW m round i t S1 (n + 1) R r)) := by
  cases h with
  | old hd h hS k => exact ⟨hd, hS, .inl ⟨h, k⟩⟩
  | new hd h hS hn w k => exact ⟨hd, hS, .inr ⟨h, hn, _, w, k⟩⟩
theorem RowW.inv_nil {m : Nat} {round : List (List Int)} {i : Int} {S R : List Dart} {n r : Nat} (h : RowW m round i [] S n R r) : R = S ∧ r = n := by
  cases h; exact ⟨rfl, rfl⟩
theorem AllW.inv {m : Nat} {round : List (List Int)} {i : Nat} {S : List Dart} {n r : Nat} (h : AllW m round i S n r) :
    (i = m ∧ r = n) ∨ (i < m ∧ rd_L4 round (i : Int) = [] ∧ n < 100000 ∧ AllW m round (i + 1) S (n + 1) r) ∨
      (i < m ∧ rd_L4 round (i : Int) ≠ [] ∧ (rd_L4 round (i : Int)).length ≤ 1000 ∧ ∃ R n1, RowW m round (i : Int) (rd_L4 round (i : Int)) S n R n1 ∧ AllW m round (i + 1) R n1 r) := by
  cases h with
  | nil => exact .inl ⟨rfl, rfl⟩
  | none hi h hn k => exact .inr (.inl ⟨hi, h, hn, k⟩)
  | row hi h hl w k => exact .inr (.inr ⟨hi, h, hl, _, _, w, k⟩)

def grid : List Dart := (List.range 10).flatMap fun a : Nat => (List.range 10).map fun b : Nat => ((a : Int), (b : Int))
theorem mem_grid {m : Nat} (hm : m ≤ 10) {round : List (List Int)} {d : Dart} (h : Vd m round d) : d ∈ grid := by
  obtain ⟨a, b⟩ := d
  obtain ⟨h1, h2, h3, h4, _⟩ := h
  simp only at h1 h2 h3 h4
  unfold grid
  refine List.mem_flatMap.2 ⟨a.toNat, List.mem_range.2 (by omega), List.mem_map.2 ⟨b.toNat, List.mem_range.2 (by omega), ?_⟩⟩
  rw [Int.toNat_of_nonneg h1, Int.toNat_of_nonneg h3]
theorem countP_lt {α : Type} {p q : α → Bool} (h : ∀ x, p x = true → q x = true) {d : α} (hp : p d = false) (hq : q d = true) : ∀ l : List α, d ∈ l → l.countP p < l.countP q := by
  intro l
  induction l with
  | nil => intro h; cases h
  | cons a t ih =>
    intro hm
    have hle : t.countP p ≤ t.countP q := List.countP_mono_left fun x _ hx => h x hx
    rw [List.countP_cons, List.countP_cons]
    rcases List.mem_cons.1 hm with rfl | hm
    · rw [hp, hq]; simp; omega
    · have := ih hm
      have h1 := h a
      cases hpa : p a
      · simp; split <;> omega
      · rw [h1 hpa]; simp; omega
/-- How many places of the grid are not marked. -/
def free (S : List Dart) : Nat := grid.countP fun d => decide (d ∉ S)
theorem free_lt {S : List Dart} {d : Dart} (h : d ∉ S) (hg : d ∈ grid) : free (d :: S) < free S :=
  countP_lt (fun x hx => by simp only [decide_eq_true_eq, List.mem_cons, not_or] at hx ⊢; exact hx.2) (d := d) (by simp) (by simpa using h) _ hg

def mk (S : List Dart) (x y : Int) : Int := if (x, y) ∈ S then 1 else 0
theorem mk_in {S : List Dart} {x y : Int} (h : (x, y) ∈ S) : mk S x y = 1 := if_pos h
theorem mk_out {S : List Dart} {x y : Int} (h : (x, y) ∉ S) : mk S x y = 0 := if_neg h
theorem mk_cons (S : List Dart) (x y : Int) : (fun x' y' => if x' = x ∧ y' = y then (1 : Int) else mk S x' y') = mk ((x, y) :: S) := by
  funext x' y'
  unfold mk
  by_cases h : x' = x ∧ y' = y
  · rw [if_pos h, if_pos (by rw [h.1, h.2]; exact List.mem_cons_self)]
  · rw [if_neg h]
    by_cases h2 : (x', y') ∈ S
    · rw [if_pos h2, if_pos (List.mem_cons_of_mem _ h2)]
    · rw [if_neg h2, if_neg fun hh => (List.mem_cons.1 hh).elim (fun e => h (by injection e with e1 e2; exact ⟨e1, e2⟩)) h2]

end Go.Proofs.YtoblkmbmacimiaaDoor.L
namespace Go.Proofs.YtoblkmbmacimiaaDoor.G
open Go.RowKit Go.Shelf Go.Proofs.YtoblkmbmacimiaaDoorW.PrintWords Go.Proofs.YtoblkmbmacimiaaDoorW.PrintLast Go.Proofs.YtoblkmbmacimiaaDoorW.PrintMore
open Go.Proofs.YtoblkmbmacimiaaDoor.B Go.Proofs.YtoblkmbmacimiaaDoor.L
attribute [local go_sem] Oper.semAt_some

open Classical in
noncomputable def left (b : Nat) (W : World) : Nat := grid.countP fun d => decide ((Instr.lookup 106 (.map (some b)) (.agg #[.int .i64 d.1, .int .i64 d.2]) false).run Tryd.prog W = .ok (.int .i64 0) W)
theorem grid_I64 {d : Dart} (h : d ∈ grid) : I64 d.1 ∧ I64 d.2 := by
  unfold grid at h
  obtain ⟨a, ha, hb⟩ := List.mem_flatMap.1 h
  obtain ⟨b, hb2, rfl⟩ := List.mem_map.1 hb
  have := List.mem_range.1 ha
  have := List.mem_range.1 hb2
  exact ⟨WalkArith.wf_i64 (by omega), WalkArith.wf_i64 (by omega)⟩
theorem left_is {W : World} {b n : Nat} {S : List Dart} (h : DM W b n (mk S)) : left b W = free S := by
  unfold left free
  refine List.countP_congr fun d hd => ?_
  obtain ⟨h1, h2⟩ := grid_I64 hd
  have := h.look d.1 d.2 h1 h2
  rw [this]
  simp only [decide_eq_true_eq]
  unfold mk
  by_cases hm : (d.1, d.2) ∈ S
  · rw [if_pos hm]
    constructor
    · intro hh; injection hh with hh; injection hh with _ hh; cases hh
    · intro hh; exact absurd hm hh
  · rw [if_neg hm]
    exact ⟨fun _ => hm, fun _ => rfl⟩

set_option maxHeartbeats 8000000 in
set_option maxRecDepth 100000 in
theorem maps_faces.walk (m : Nat) (hm : m ≤ 10) (Ar : Option Addr) (cr : Nat) (round : List (List Int)) (hrl : round.length = m) (hlen : ∀ b : Int, (rd_L4 round b).length ≤ 1000) (r : Nat) (w : World) (hr : Kd.C (Kd.slice 3 (Kd.int .i64)) w Ar round.length round) (hw : AllW m round 0 [] 0 r) :
    Calls Tryd.prog 60 #[.slice Ar round.length cr] w fun e w' => e = .returned (.int .i64 r) ∧ Below w.heap.size w w' := by
  have hmm := @run_makeMap Tryd.prog
  have hfo : Tryd.prog.follows .mixedOrders = true := by kernel_rfl
  have HW := Lib.hid hw
  have HL := Lib.hid hlen
  clear hw hlen
  subst hrl
  go_enter Tryd.func60, Tryd.ntmps60
  go_wp2
  go_loopw [4, 13] (fun v4 v13 wr => ∃ (S : List Dart) (n i : Nat), v4 = .int .i64 n ∧ v13 = .int .i64 i ∧ Hid (AllW round.length round i S n r) ∧ Aside0 (DM wr w.heap.size S.length (mk S)) ∧ Aside0 (Below w.heap.size w wr)) (fun _ v13 _ => round.length - (intOf v13).toNat)
  case atStart =>
    exact ⟨[], 0, 0, rfl, rfl, HW, ⟨DM.made w⟩, ⟨below_alloc (Below.refl _ _) _⟩⟩
  case round =>
    obtain ⟨S, n, i, rfl, rfl, HA, HM, HB⟩ := hrel
    rcases HA.out.inv with ⟨rfl, rfl⟩ | ⟨hi, he, hn, hA⟩ | ⟨hi, he, hl, R, n1, hR, hA⟩
    · clear HA HW
      go_wp2
      go_ret
      exact ⟨rfl, HB.out⟩
    · obtain ⟨adr, A0, c0, rfl, hx, _, _⟩ := at_L4 (Kd.C_below hr HB.out) (i : Int) (by omega) (by omega)
      rw [he, Int.toNat_natCast] at hx
      have HA2 := Lib.hid hA
      clear hA HA HW he
      have hi1 : (i : Int) < (round.length : Int) := by omega
      have hi2 : (i : Int) < (round.length : Int) := by omega
      have hi0 : (0 : Int) ≤ (i : Int) := by omega
      go_wp2
      go_loopw [4, 25] (fun v4 v25 wr2 => v4 = .int .i64 ((n : Int) + 1) ∧ v25 = .int .i64 0 ∧ wr2 = wr) (fun _ _ _ => 0)
      case atStart => exact ⟨rfl, rfl, rfl⟩
      case round =>
        obtain ⟨rfl, rfl, rfl⟩ := hrel
        go_wp2
        go_roundw
        case rel => exact ⟨S, n + 1, i + 1, by go_num, by go_num, HA2, HM, HB⟩
        case measure => simp [intOf]; omega
    · obtain ⟨adr, A0, c0, rfl, hx, hc0, hC0⟩ := at_L4 hr (i : Int) (by omega) (by omega)
      replace hx := (HB.out.cell (World.block_lt_of_cell? w _ hx)).trans hx
      rw [Int.toNat_natCast] at hx
      have HA2 := Lib.hid hA
      have HR := Lib.hid hR
      have hi1 : (i : Int) < (round.length : Int) := by omega
      have hi2 : (i : Int) < (round.length : Int) := by omega
      have hi0 : (0 : Int) ≤ (i : Int) := by omega
      have Wx := Lib.hid (show I64 (i : Int) from WalkArith.wf_i64 (by omega))
      obtain ⟨row, hrow⟩ : ∃ row, rd_L4 round (i : Int) = row := ⟨_, rfl⟩
      rw [hrow] at hx hC0 hc0 HR hl he
      have hlz : ((row.length : Int) == 0) = false := beq_eq_false_iff_ne.2 (fun h => he (List.length_eq_zero_iff.1 (by omega)))
      have HC0 := Aside0.mk hC0
      have HR0 := Aside0.mk hr
      clear hA HA HW hR hC0 he hrow hr
      obtain ⟨wo, hwo⟩ : ∃ wo, wo = wr := ⟨_, rfl⟩
      subst hwo
      go_wp2
      go_loopw [4, 25] (fun v4 v25 wr2 => ∃ (S : List Dart) (n k : Nat), v4 = .int .i64 n ∧ v25 = .int .i64 k ∧ k ≤ row.length ∧ Hid (RowW round.length round (i : Int) (row.drop k) S n R n1) ∧ Aside0 (DM wr2 w.heap.size S.length (mk S)) ∧ Aside0 (Below w.heap.size w wr2)) (fun _ v25 _ => row.length - (intOf v25).toNat)
      case atStart => exact ⟨S, n, 0, rfl, rfl, Nat.zero_le _, HR, HM, HB⟩
      case round =>
        clear HR HM HB
        obtain ⟨S2, n2, k, rfl, rfl, hk, HR2, HM2, HB2⟩ := hrel
        by_cases hlt : k < row.length
        · obtain ⟨j, hj⟩ : ∃ j, row[k] = j := ⟨_, rfl⟩
          have hrd : rd row (k : Int) = j := by rw [rdI row k hlt]; exact hj
          obtain ⟨ad, rfl, hxk⟩ := Kd.at_int (Kd.C_below HC0.out HB2.out) (k : Int) (by omega) (by omega)
          rw [Int.toNat_natCast, hrd] at hxk
          have h := HR2.out
          rw [List.drop_eq_getElem_cons hlt, hj] at h
          obtain ⟨hV, hS, h⟩ := h.inv
          have hj0 := hV.b0
          have hj1 := hV.b1
          simp only at hj0 hj1
          have Wy := Lib.hid (show I64 j from WalkArith.wf_i64 (by omega))
          have L0 := (HM2.out.below (below_alloc (Below.refl _ _) (Obj.cells #[.int .i64 (i : Int), .int .i64 j] 108))).look _ _ Wx.out Wy.out
          have hk0 : (0 : Int) ≤ (k : Int) := by omega
          have hk1 : (k : Int) < (row.length : Int) := by omega
          have Hsz := Aside0.mk (below_size HB2.out)
          have HMlt := Aside0.mk HM2.out.lt
          clear hrd hj HR2
          rcases h with ⟨hin, ht⟩ | ⟨hout, hn, S1, hwk, ht⟩
          · rw [mk_in hin] at L0
            have Ht := Lib.hid ht
            clear hin ht hV
            go_wp2
            go_roundw
            case rel => exact ⟨S2, n2, k + 1, rfl, by go_num, by omega, Ht, ⟨HM2.out.below (below_alloc (Below.refl _ _) _)⟩, ⟨below_alloc HB2.out _⟩⟩
            case measure => simp [intOf]; omega
          · rw [mk_out hout] at L0
            have Ht := Lib.hid ht
            have Hwk := Lib.hid hwk
            clear hout ht hwk hV
            obtain ⟨wb, hwb⟩ : ∃ wb, wb = wr := ⟨_, rfl⟩
            subst hwb
            go_wp2
            go_loopw [] (fun wr3 => ∃ (S3 : List Dart) (da db : Int), Hid (Walk round.length round S3 (da, db) S1) ∧ Aside0 (DM wr3 w.heap.size S3.length (mk S3)) ∧ Aside0 (wr3.heap[wb.heap.size]? = some (.cells #[.int .i64 da, .int .i64 db] 108 (0, 0))) ∧ Aside0 (Below w.heap.size w wr3)) (fun wr3 => left w.heap.size wr3)
            case atStart => exact ⟨S2, i, j, Hwk, ⟨HM2.out.below (below_alloc (Below.refl _ _) _)⟩, ⟨blk_new _ _⟩, ⟨below_alloc HB2.out _⟩⟩
            case round =>
              clear Hwk L0
              obtain ⟨S3, da, db, HW3, HM3, HX3, HB3⟩ := hrel
              obtain ⟨hV, h3⟩ := HW3.out.inv
              have ha0 := hV.a0
              have ha1 := hV.a1
              have hb0 := hV.b0
              have hb1 := hV.b1
              simp only at ha0 ha1 hb0 hb1
              have Wa := Lib.hid (show I64 da from WalkArith.wf_i64 (by omega))
              have Wb := Lib.hid (show I64 db from WalkArith.wf_i64 (by omega))
              have L3 := HM3.out.look _ _ Wa.out Wb.out
              have d0 := (blk_cell HX3.out 0).trans rfl
              have d1 := (blk_cell HX3.out 1).trans rfl
              rcases h3 with ⟨hin, rfl⟩ | ⟨hout, hS3, hwk3⟩
              · rw [mk_in hin] at L3
                clear hin hV
                go_wp2
                go_roundw
                case rel => exact ⟨_, n2 + 1, k + 1, by go_num, by go_num, by omega, Ht, HM3, HB3⟩
                case measure => simp [intOf]; omega
              · rw [mk_out hout] at L3
                go_wp2
                obtain ⟨st, W2, hE2, M2, g2, hS⟩ := DM.entry (W := wr.drew) (HM3.out.move rfl) (by unfold maxLen; omega) _ _ Wa.out Wb.out
                have L2 := M2.look _ _ Wa.out Wb.out
                have L1 := (HM3.out.move (W' := wr.drew) rfl).look _ _ Wa.out Wb.out
                rw [mk_out hout] at L1 L2 hE2
                obtain ⟨W4, hs4, M4, g4⟩ := hS W2 1 rfl (WalkArith.wf_i64 (by omega))
                rw [mk_cons] at M4
                replace hs4 : (Instr.entryStore 106 (.map (some w.heap.size)) (.int .i64 (st : Int)) (.int .i64 1)).run Tryd.prog W2 = .ok () W4 := hs4
                replace hE2 : (Instr.mapEntry 106 (.map (some w.heap.size)) (.agg #[.int .i64 da, .int .i64 db])).run Tryd.prog wr.drew = .ok (.tuple #[.int .i64 0, .int .i64 (st : Int)]) W2 := hE2
                have N4 := Aside0.mk M4
                have hbw : wb.heap.size ≠ w.heap.size := by have := HMlt.out; omega
                have b2 := blk_grown (blk_drew HX3.out) g2 (by simpa using hbw)
                have b4 := blk_grown b2 g4 (by simpa using hbw)
                have B2 := HB3.out.drew.grown g2 HB3.out.drew.size (fun j e => by cases e; omega)
                have B4 := B2.grown g4 B2.size (fun j e => by cases e; omega)
                have HB4 := Aside0.mk B4
                have f0 : W4.cell? ⟨wb.heap.size, 0, none⟩ = some (.int .i64 da) := (blk_cell b4 0).trans rfl
                have f1 : W4.cell? ⟨wb.heap.size, 1, none⟩ = some (.int .i64 db) := (blk_cell b4 1).trans rfl
                have Hb4 := Aside0.mk b4
                have e0 := (blk_cell b2 0).trans rfl
                have e1 := (blk_cell b2 1).trans rfl
                have hnext : ∀ W, Below w.heap.size w W → Calls Tryd.prog 75 #[.slice (some adr) round.length cr, .agg #[.int .i64 da, .int .i64 db]] W fun e w' => e = .returned (.agg #[.int .i64 (L.nxt round (da, db)).1, .int .i64 (L.nxt round (da, db)).2]) ∧ Below W.heap.size W w' := fun W hb => by
                  exact maps_next.calls round.length hm (some adr) cr round rfl da db W (Kd.C_below HR0.out hb) hV (HL.out db)
                have Hg := Lib.hid (free_lt hout (mem_grid hm hV))
                have Hl := Lib.hid (left_is HM3.out)
                have Hk3 := Lib.hid hwk3
                obtain ⟨⟨na, nb⟩, hnx⟩ : ∃ d', nxt round (da, db) = d' := ⟨_, rfl⟩
                rw [hnx] at Hk3
                simp only [hnx] at hnext
                have Hnext := Lib.hid (hnext W4 HB4.out)
                clear hnext M2 M4 g2 g4 hS hout hwk3 hV b2 b4 B2 B4 HW3
                have Hbx := Lib.hid hbw
                go_region
                go_wp2_with ((go_at_call 75); with_reducible refine Hnext.out.mono ?_; rintro e w5 ⟨rfl, hb5⟩; have k5 := blk_below Hb4.out hb5; have s0 : w5.cell? ⟨wb.heap.size, 0, none⟩ = some (.int .i64 da) := (blk_cell k5 0).trans rfl; have s1 : w5.frozen? ⟨wb.heap.size, 0, none⟩ = false := blk_frozen k5 0; have k6 : (w5.setCell ⟨wb.heap.size, 0, none⟩ (.int .i64 na)).heap[wb.heap.size]? = some (.cells #[.int .i64 na, .int .i64 db] 108 (0, 0)) := blk_put k5 0 _ rfl; have s2 : (w5.setCell ⟨wb.heap.size, 0, none⟩ (.int .i64 na)).cell? ⟨wb.heap.size, 1, none⟩ = some (.int .i64 db) := (blk_cell k6 1).trans rfl; have s3 : (w5.setCell ⟨wb.heap.size, 0, none⟩ (.int .i64 na)).frozen? ⟨wb.heap.size, 1, none⟩ = false := blk_frozen k6 1)
                have k7 := blk_put (cs' := #[.int .i64 na, .int .i64 nb]) k6 1 (.int .i64 nb) rfl
                have hB7 : Below w.heap.size w ((w5.setCell ⟨wb.heap.size, 0, none⟩ (.int .i64 na)).setCell ⟨wb.heap.size, 1, none⟩ (.int .i64 nb)) := below_set (below_set (HB4.out.trans (hb5.mono HB4.out.size)) (by have := HMlt.out; show w.heap.size ≤ wb.heap.size; omega)) (by have := HMlt.out; show w.heap.size ≤ wb.heap.size; omega)
                have hM7 : DM ((w5.setCell ⟨wb.heap.size, 0, none⟩ (.int .i64 na)).setCell ⟨wb.heap.size, 1, none⟩ (.int .i64 nb)) w.heap.size ((da, db) :: S3).length (mk ((da, db) :: S3)) := (N4.out.below hb5).move ((Below.heap_setCell _ _ _ _ (fun e => Hbx.out e.symm)).trans (Below.heap_setCell _ _ _ _ (fun e => Hbx.out e.symm)))
                have hl7 := left_is hM7
                have K7 := Aside0.mk k7
                have HB7 := Aside0.mk hB7
                have HM7 := Aside0.mk hM7
                clear k7 hB7 hM7
                go_roundw
                case rel => exact ⟨_, na, nb, Hk3, HM7, K7, HB7⟩
                case measure => rw [Hl.out, hl7]; exact Hg.out
        · obtain rfl : k = row.length := by omega
          obtain ⟨rfl, rfl⟩ := (show RowW round.length round (i : Int) [] S2 n2 R n1 by have := HR2.out; rwa [List.drop_length] at this).inv_nil
          clear hlt HR2
          go_wp2
          go_roundw
          case rel => exact ⟨_, _, i + 1, rfl, by go_num, HA2, HM2, HB2⟩
          case measure => simp [intOf]; omega

open Classical in
/-- How many rounds maps.faces counts. -/
noncomputable def maps_faces.f (round : List (List Int)) : Option Int :=
  if h : round.length ≤ 10 ∧ (∀ b : Int, (rd_L4 round b).length ≤ 1000) ∧ ∃ r : Nat, AllW round.length round 0 [] 0 r then some (h.2.2.choose : Int) else none
theorem maps_faces.f_is {round : List (List Int)} (h1 : round.length ≤ 10) (h2 : ∀ b : Int, (rd_L4 round b).length ≤ 1000) (h3 : ∃ r : Nat, AllW round.length round 0 [] 0 r) : ∃ r : Nat, maps_faces.f round = some (r : Int) ∧ AllW round.length round 0 [] 0 r := by
  refine ⟨h3.choose, ?_, h3.choose_spec⟩
  unfold maps_faces.f
  rw [dif_pos ⟨h1, h2, h3⟩]
theorem maps_faces.calls (A : Option Addr) (c : Nat) (l0 : List (List Int)) (r : Int) (w : World) (hr0 : Kd.C (Kd.slice 3 (Kd.int .i64)) w A l0.length l0) (_hc0 : l0.length ≤ c) (h : maps_faces.f l0 = some r) :
    Calls Tryd.prog 60 #[.slice A l0.length c] w fun e w' => e = .returned (.int .i64 r) ∧ Below w.heap.size w w' := by
  unfold maps_faces.f at h
  by_cases hc : l0.length ≤ 10 ∧ (∀ b : Int, (rd_L4 l0 b).length ≤ 1000) ∧ ∃ r : Nat, AllW l0.length l0 0 [] 0 r
  · rw [dif_pos hc] at h
    cases h
    exact maps_faces.walk _ hc.1 A c l0 rfl hc.2.1 _ w hr0 hc.2.2.choose_spec
  · rw [dif_neg hc] at h; cases h

end Go.Proofs.YtoblkmbmacimiaaDoor.G
