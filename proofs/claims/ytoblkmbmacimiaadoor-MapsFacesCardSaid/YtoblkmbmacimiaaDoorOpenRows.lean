/- How this seat's arguments read (a graph; rows of words, of numbers, of rows), and what the listed table gives a walk. How a row of rows of numbers reads, with a bound on each row's length. -/
import Derived.Test.YtoblkmbmacimiaaDoorRows
import Derived.Test.YtoblkmbmacimiaaDoorGZero
import Derived.Test.YtoblkmbmacimiaaDoorBits
import Derived.Deep.Slices
import Derived.Lib.SmallJoins
import Derived.Lib.LaidTab
import Derived.LaidHandle
import Derived.LaidLaws
import Derived.Carry
import Derived.ChangeSame
import Derived.ChangeVars
import Derived.JoinedOf
import Derived.RowKit
import Derived.OpenShut
import Derived.SizedLaws

namespace Go.Proofs.YtoblkmbmacimiaaDoor.O
open Go.ChangeShapes Go.WideShapes Go.RowKit Go.Deep Go.Joins
open Go.Proofs.YtoblkmbmacimiaaDoorW.PrintWords Go.Proofs.YtoblkmbmacimiaaDoor.G

theorem own : ownKnob Tryd.prog.godebug = none := by kernel_rfl
theorem laidOut : laidOutB Tryd.prog = true := by kernel_rfl

section
variable {H : Type} {enc : TypeId × Value → H} {P : Program} {w : World} {base : Nat} {spare : Nat → Bool} {held : Bool}
/-- A row, read: what each element's cells say. -/
theorem row_open {α : Type} (d : Kd α) {t e : TypeId} (ht : P.underlying t = some (.slice e)) (hC : P.cellsOf e = d.sz) (ok : α → Prop)
    (hel : ∀ (cs' : List Value) (n : Nat) (y : DataW H × List MemPlace), cs'.length = d.sz → DataW.trod enc P w base spare held n e cs' = some y → ∃ x, d.K w x cs' ∧ ok x)
    {fuel : Nat} {cs : List Value} {x : DataW H × List MemPlace} (h : DataW.trod enc P w base spare held fuel t cs = some x) :
    ∃ (A : Option Addr) (c : Nat) (l : List α), cs = [.slice A l.length c] ∧ l.length ≤ c ∧ d.C w A l.length l ∧ ∀ x ∈ l, ok x := by
  rcases open_slice ht h with ⟨rfl, rfl⟩ | ⟨a, len, cap, m, n, D, Pl, rfl, _, hl, hm, hmm, _, hi⟩
  · exact ⟨none, 0, [], rfl, Nat.le_refl _, Kd.C_nil d w, by simp⟩
  · have hlm : len ≤ m := by rw [hmm]; split <;> omega
    have hall : ∀ i : Fin len, ∃ z, ∃ cs', cs'.length = d.sz ∧ d.K w z cs' ∧ ok z ∧ ∀ j u, cs'[j]? = some u → w.cell? (a.add (i.val * d.sz + j)) = some u := fun i => by
      obtain ⟨cs', hc, htr⟩ := hi i.val (by have := i.isLt; omega)
      rw [hC] at hc
      obtain ⟨_, hcl, hat⟩ := World.cells?_some hc
      obtain ⟨z, hK, hok⟩ := hel cs' n _ hcl htr
      refine ⟨z, cs', hcl, hK, hok, fun j u hj => ?_⟩
      have hjl : j < d.sz := by have := (List.getElem?_eq_some_iff.1 hj).1; omega
      rw [← Go.Deep.add_add, hat j hjl, hj]
    refine ⟨some a, cap, List.ofFn fun i => Classical.choose (hall i), by simp, by simpa using hl, ⟨rfl, ?_, fun _ => ⟨a, rfl, fun j p hj => ?_⟩⟩, fun z hz => ?_⟩
    · simp; unfold maxLen at hm; omega
    · rw [List.getElem?_ofFn] at hj
      split at hj
      · rename_i hjl
        cases hj
        obtain ⟨cs', h1, h2, _, h4⟩ := Classical.choose_spec (hall ⟨j, hjl⟩)
        exact ⟨cs', h1, h2, h4⟩
      · cases hj
    · obtain ⟨i, rfl⟩ := (List.mem_ofFn).1 hz
      obtain ⟨cs', _, _, h3, _⟩ := Classical.choose_spec (hall i)
      exact h3
end

theorem cells2 : Tryd.prog.cellsOf 2 = 1 := by kernel_rfl
theorem cells3 : Tryd.prog.cellsOf 3 = 1 := by kernel_rfl
theorem cells24 : Tryd.prog.cellsOf 24 = 2 := by kernel_rfl
theorem cells57 : Tryd.prog.cellsOf 57 = 3 := by kernel_rfl

def W64 (x : Int) : Prop := (Lit.int .i64 x).wf = true
def Wf57 (e : S57) : Prop := W64 e.f0 ∧ W64 e.f1 ∧ W64 e.f2

section
variable {H : Type} {enc : TypeId × Value → H} {w : World} {base : Nat} {spare : Nat → Bool} {held : Bool}
theorem edge_open (cs : List Value) (n : Nat) (y : DataW H × List MemPlace) (hl : cs.length = 3) (h : DataW.trod enc Tryd.prog w base spare held n 57 cs = some y) : ∃ x, k57.K w x cs ∧ Wf57 x := by
  match cs, hl with
  | [c0, c1, c2], _ =>
    obtain ⟨xs, m, _, _, _, hxl, hf⟩ := DataW.trod_struct Tryd.underlying57 h
    have h0 := hf 0 _ rfl
    have h1 := hf 1 _ rfl
    have h2 := hf 2 _ rfl
    change DataW.trod enc Tryd.prog w base spare held m 3 (([c0, c1, c2].drop 0).take (Tryd.prog.cellsOf 3)) = xs[0]? at h0
    change DataW.trod enc Tryd.prog w base spare held m 3 (([c0, c1, c2].drop 1).take (Tryd.prog.cellsOf 3)) = xs[1]? at h1
    change DataW.trod enc Tryd.prog w base spare held m 2 (([c0, c1, c2].drop 2).take (Tryd.prog.cellsOf 2)) = xs[2]? at h2
    rw [cells3] at h0 h1
    rw [cells2] at h2
    have e0 : ∃ z, DataW.trod enc Tryd.prog w base spare held m 3 [c0] = some z := ⟨_, h0.trans (List.getElem?_eq_getElem (by rw [hxl]; decide))⟩
    have e1 : ∃ z, DataW.trod enc Tryd.prog w base spare held m 3 [c1] = some z := ⟨_, h1.trans (List.getElem?_eq_getElem (by rw [hxl]; decide))⟩
    have e2 : ∃ z, DataW.trod enc Tryd.prog w base spare held m 2 [c2] = some z := ⟨_, h2.trans (List.getElem?_eq_getElem (by rw [hxl]; decide))⟩
    obtain ⟨_, e0⟩ := e0
    obtain ⟨_, e1⟩ := e1
    obtain ⟨_, e2⟩ := e2
    obtain ⟨a, ha, _, wa⟩ := DataW.trod_int Tryd.underlying3 e0
    obtain ⟨b, hb, _, wb⟩ := DataW.trod_int Tryd.underlying3 e1
    obtain ⟨c, hc, _, wc⟩ := DataW.trod_int Tryd.underlying2 e2
    obtain rfl := List.cons.inj ha |>.1
    obtain rfl := List.cons.inj hb |>.1
    obtain rfl := List.cons.inj hc |>.1
    exact ⟨⟨a, b, c⟩, k57_mk w ⟨a, b, c⟩, wa, wb, wc⟩

theorem one24 : oneCellFields Tryd.prog #[{ name := "N", type := 3, offset := 0, embedded := false, tag := "", pkgPath := "", byteOffset := 0 }, { name := "Edges", type := 22, offset := 1, embedded := false, tag := "", pkgPath := "", byteOffset := 8 }] = true := by kernel_rfl
set_option maxRecDepth 100000 in
/-- A graph that comes in. -/
theorem graph_open {r : Reach} {b0 : Nat} {v : Value} {d : DataW H} {p : List MemPlace} (hv : Value.okWide Tryd.prog w r b0 24 v) (h : DataW.Trod enc Tryd.prog w base spare held 24 v d p) :
    ∃ (n : Int) (A : Option Addr) (c : Nat) (l : List S57), v = .agg #[.int .i64 n, .slice A l.length c] ∧ k57.C w A l.length l ∧ l.length ≤ c ∧ W64 n ∧ ∀ e ∈ l, Wf57 e := by
  obtain ⟨v0, v1, y0, y1, m, rfl, _, _, h0, h1⟩ := open_agg2 Tryd.underlying24 one24 cells24 hv h
  obtain ⟨n, hn, _, wn⟩ := DataW.trod_int Tryd.underlying3 h0
  obtain rfl := List.cons.inj hn |>.1
  obtain ⟨A, c, l, hc, hlc, hC, hok⟩ := row_open k57 Tryd.underlying22 cells57 Wf57 (fun cs' n y hl ht => edge_open cs' n y hl ht) h1
  obtain rfl := List.cons.inj hc |>.1
  exact ⟨n, A, c, l, rfl, hC, hlc, wn, hok⟩
end

/-! ### The table -/
def tabInts : List Int := Lib.deBruijn32tab.map Int.ofNat
theorem tab_named : Tryd.prog.globalNamed "math/bits.deBruijn32tab" = some 0 := by kernel_rfl
theorem tab_type : (Tryd.prog.globals[0]?).map (·.type) = some 112 := by kernel_rfl
theorem cells112 : Tryd.prog.cellsOf 112 = 32 := by kernel_rfl
theorem cells5 : Tryd.prog.cellsOf 5 = 1 := by kernel_rfl
abbrev laidTab : List (String × DataW Unit) := [("math/bits.deBruijn32tab", Rows.laid_math_bits_deBruijn32tab)]
theorem laid_is : (Rows.laid_math_bits_deBruijn32tab : DataW Unit) = Lib.tabData .u8 tabInts := by kernel_rfl

theorem tab_of_laid {W : World} (h : laidMetH Tryd.prog laidTab W) : B.Tab W := by
  have h' : laidMet Tryd.prog [("math/bits.deBruijn32tab", Lib.tabData .u8 tabInts)] W := by rw [← laid_is]; exact h
  have ht := Lib.tabIs_of_head tab_named tab_type Tryd.underlying112 Tryd.underlying5 cells5 cells112 h'
  intro j hj
  have hl : tabInts.length = 32 := by decide +kernel
  have := ht.cell tab_named j (by omega)
  rw [this]
  have e : tabInts.getD j 0 = ((Lib.deBruijn32tab.getD j 0 : Nat) : Int) := by
    unfold tabInts
    simp only [List.getD_eq_getElem?_getD, List.getElem?_map]
    cases Lib.deBruijn32tab[j]? <;> rfl
  rw [e]

/-- A world that meets the condition: the settled one, the table laid. -/
def tabCells : Array Value := (tabInts.map fun z => Value.int .u8 z).toArray
theorem no_iface (off : Nat) (u : TypeId) (v : Value) (h : tabCells[off]? = some (.iface u v)) : False := by
  simp only [tabCells, List.getElem?_toArray, List.getElem?_map] at h
  cases hx : tabInts[off]? <;> simp [hx] at h
noncomputable def laidWorld (os : Os) : World :=
  { World.holding Tryd.prog os ⟨#[], #[], []⟩ with heap := (World.holding Tryd.prog os ⟨#[], #[], []⟩).heap.modify 0 fun
      | .cells _ t frozen => .cells tabCells t frozen
      | o => o }
theorem laidWorld_row (os : Os) (args : Array Value) : ((laidWorld os).forCall (fun _ _ => 0) ⟨#[], args, []⟩).memory.heap[0]? = some (.cells tabCells 112 (0, 0)) := by kernel_rfl

theorem laidWorld_met (os : Os) (args : Array Value) : laidMetH Tryd.prog laidTab ((laidWorld os).forCall (fun _ _ => 0) ⟨#[], args, []⟩).memory := by
  refine ⟨_, ⟨0, 112, tabCells, 8, [], [], by kernel_rfl, by kernel_rfl, by kernel_rfl, by kernel_rfl, rfl, rfl⟩, by decide +kernel, fun b off h => ?_⟩
  have hrow := laidWorld_row os args
  have e : tabCells.size = 32 := by decide +kernel
  rw [e] at h
  have h' : MemPlace.cell b off ∈ MemPlace.row ⟨0, 0, none⟩ 32 := by simpa using h
  have hb : b = 0 := by
    simp [MemPlace.row] at h'
    omega
  subst hb
  generalize ((laidWorld os).forCall (fun _ _ => 0) ⟨#[], args, []⟩).memory = M at hrow ⊢
  refine ⟨⟨_, _, hrow⟩, fun u v hc => ?_⟩
  have h2 : tabCells[off]? = some (.iface u v) := (blk_cell hrow off).symm.trans hc
  exact (no_iface off u v h2).elim

end Go.Proofs.YtoblkmbmacimiaaDoor.O

namespace Go.Proofs.YtoblkmbmacimiaaDoor.O
open Go.ChangeShapes Go.WideShapes Go.RowKit Go.Deep Go.Joins
open Go.Proofs.YtoblkmbmacimiaaDoorW.PrintWords Go.Proofs.YtoblkmbmacimiaaDoor.G

section
variable {H : Type} {enc : TypeId × Value → H} {P : Program} {w : World} {base : Nat} {spare : Nat → Bool} {held : Bool}
theorem weights_mem {e : TypeId} : ∀ {ds : List (DataW H)} {d : DataW H} {n : Nat}, d ∈ ds → n ∈ d.weights P e → n ∈ DataW.weightsAll P e ds
  | d0 :: ds, d, n, hd, hn => by
    simp only [DataW.weightsAll, List.mem_append]
    rcases List.mem_cons.1 hd with rfl | hd
    · exact .inl hn
    · exact .inr (weights_mem hd hn)
def Light (P : Program) (t : TypeId) (d : DataW H) : Prop := ∀ n ∈ d.weights P t, n ≤ reachBytes
theorem row_open_w {α : Type} (d : Kd α) {t e : TypeId} (ht : P.underlying t = some (.slice e)) (hC : P.cellsOf e = d.sz) (ok : α → Prop)
    (hel : ∀ (cs' : List Value) (n : Nat) (y : DataW H × List MemPlace), cs'.length = d.sz → DataW.trod enc P w base spare held n e cs' = some y → Light P e y.1 → ∃ x, d.K w x cs' ∧ ok x)
    {fuel : Nat} {cs : List Value} {x : DataW H × List MemPlace} (h : DataW.trod enc P w base spare held fuel t cs = some x) (hx : Light P t x.1) :
    ∃ (A : Option Addr) (c : Nat) (l : List α), cs = [.slice A l.length c] ∧ l.length ≤ c ∧ d.C w A l.length l ∧ (∀ x ∈ l, ok x) ∧ l.length * P.bytesOf e ≤ reachBytes := by
  rcases open_slice ht h with ⟨rfl, rfl⟩ | ⟨a, len, cap, m, n, D, Pl, rfl, _, hl, hm, hmm, rfl, hi⟩
  · exact ⟨none, 0, [], rfl, Nat.le_refl _, Kd.C_nil d w, by simp, by simp⟩
  · have hlm : len ≤ m := by rw [hmm]; split <;> omega
    have hw : ∀ i, i < len → Light P e (D i) := fun i hi n hn => hx n (by
      simp only [DataW.weights, ht, List.mem_cons, List.mem_append]
      exact .inr (.inl (weights_mem (List.mem_map.2 ⟨i, List.mem_range.2 hi, rfl⟩) hn)))
    have hall : ∀ i : Fin len, ∃ z, ∃ cs', cs'.length = d.sz ∧ d.K w z cs' ∧ ok z ∧ ∀ j u, cs'[j]? = some u → w.cell? (a.add (i.val * d.sz + j)) = some u := fun i => by
      obtain ⟨cs', hc, htr⟩ := hi i.val (by have := i.isLt; omega)
      rw [hC] at hc
      obtain ⟨_, hcl, hat⟩ := World.cells?_some hc
      obtain ⟨z, hK, hok⟩ := hel cs' n _ hcl htr (hw i.val i.isLt)
      refine ⟨z, cs', hcl, hK, hok, fun j u hj => ?_⟩
      have hjl : j < d.sz := by have := (List.getElem?_eq_some_iff.1 hj).1; omega
      rw [← Go.Deep.add_add, hat j hjl, hj]
    refine ⟨some a, cap, List.ofFn fun i => Classical.choose (hall i), by simp, by simpa using hl, ⟨rfl, ?_, fun _ => ⟨a, rfl, fun j p hj => ?_⟩⟩, fun z hz => ?_, ?_⟩
    · simp; unfold maxLen at hm; omega
    · rw [List.getElem?_ofFn] at hj
      split at hj
      · rename_i hjl
        cases hj
        obtain ⟨cs', h1, h2, _, h4⟩ := Classical.choose_spec (hall ⟨j, hjl⟩)
        exact ⟨cs', h1, h2, h4⟩
      · cases hj
    · obtain ⟨i, rfl⟩ := (List.mem_ofFn).1 hz
      obtain ⟨cs', _, _, h3, _⟩ := Classical.choose_spec (hall i)
      exact h3
    · rw [List.length_ofFn]
      have h1 := hx (((List.range len).map D).length + ((List.range (m - len)).map fun j => D (len + j)).length |> (· * P.bytesOf e)) (by simp [DataW.weights, ht])
      refine Nat.le_trans (Nat.mul_le_mul_right _ ?_) h1
      simp
end

theorem cells32 : Tryd.prog.cellsOf 32 = 1 := by kernel_rfl
theorem cells44 : Tryd.prog.cellsOf 44 = 1 := by kernel_rfl
theorem bytes3 : Tryd.prog.bytesOf 3 = 8 := by kernel_rfl
/-- A row that the reach bears. -/
def Borne (x : List Int) : Prop := x.length * 8 ≤ reachBytes
theorem Borne.le {x : List Int} (h : Borne x) : x.length * 8 ≤ 140737488355328 := by
  have h1 : x.length * 8 ≤ reachBytes := h
  have := reachBytes_lt
  omega
set_option maxRecDepth 100000 in
theorem rows_open {H : Type} {enc : TypeId × Value → H} {w : World} {base b0 : Nat} {spare : Nat → Bool} {held : Bool} {r : Reach} {v : Value} {d : DataW H} {ps : List MemPlace} (hv : Value.okWide Tryd.prog w r b0 44 v) (h : DataW.Trod enc Tryd.prog w base spare held 44 v d ps) (hd : Light Tryd.prog 44 d) :
    ∃ (A : Option Addr) (c : Nat) (l : List (List Int)), v = .slice A l.length c ∧ (Kd.slice 3 (Kd.int .i64)).C w A l.length l ∧ l.length ≤ c ∧ ∀ x ∈ l, Borne x := by
  obtain ⟨a, len, cap, rfl⟩ := okWide_slice Tryd.underlying44 hv
  obtain ⟨fuel, hf⟩ := h
  obtain ⟨A, c, l, hc, hlc, hC, hok, _⟩ := row_open_w (Kd.slice 3 (Kd.int .i64)) Tryd.underlying44 cells32 Borne (fun cs' n y hl ht hy => by
    obtain ⟨A, c, l, h1, h2, h3, _, h5⟩ := row_open_w (Kd.int .i64) Tryd.underlying32 cells3 (fun _ => True) (fun cs'' n' y' hl' ht' _ => by
      obtain ⟨z, hz, _, _⟩ := DataW.trod_int Tryd.underlying3 ht'
      exact ⟨z, hz, trivial⟩) ht hy
    have h6 : Borne l := by unfold Borne; rw [bytes3] at h5; exact h5
    exact ⟨l, ⟨A, c, h1, h2, h3⟩, h6⟩) hf hd
  have e : Value.slice a len cap = .slice A l.length c := by
    have := hc
    simp only [Value.cells] at this
    simpa using this
  rw [e]
  exact ⟨A, c, l, rfl, hC, hlc, hok⟩

end Go.Proofs.YtoblkmbmacimiaaDoor.O
