/- How a row of rows of numbers reads, with a bound on each row's length. -/
import Derived.Test.YtoblkmbmacimiaaDoorOpen
import Derived.SizedLaws
namespace Go.Proofs.YtoblkmbmacimiaaDoor.O
open Go.ChangeShapes Go.WideShapes Go.RowKit Go.Deep Go.Joins
open Go.Proofs.YtoblkmbmacimiaaDoorW.PrintWords Go.Proofs.YtoblkmbmacimiaaDoor.G

section
variable {H : Type} {enc : TypeId × Value → H} {P : Program} {w : World} {base : Nat} {spare : Nat → Bool} {held : Bool}
theorem weights_mem {e : TypeId} : ∀ {ds : List (DataW H)} {d : DataW H} {n : Nat}, d ∈ ds → n ∈ d.weights P e → n ∈ DataW.weightsAll P e ds
  | d0 :: ds, d, n, hd, hn => by
    simp only [DataW.weightsAll, List.mem_append]
    rcases List.mem_cons.1 hd with rfl | hd
    · exact .inl hn
    · exact .inr (weights_mem hd hn)
def Light (P : Program) (t : TypeId) (d : DataW H) : Prop := ∀ n ∈ d.weights P t, n ≤ reachBytes
theorem row_open_w {α : Type} (d : Kd α) {t e : TypeId} (ht : P.underlying t = some (.slice e)) (hC : P.cellsOf e = d.sz) (ok : α → Prop)
    (hel : ∀ (cs' : List Value) (n : Nat) (y : DataW H × List MemPlace), cs'.length = d.sz → DataW.trod enc P w base spare held n e cs' = some y → Light P e y.1 → ∃ x, d.K w x cs' ∧ ok x)
    {fuel : Nat} {cs : List Value} {x : DataW H × List MemPlace} (h : DataW.trod enc P w base spare held fuel t cs = some x) (hx : Light P t x.1) :
    ∃ (A : Option Addr) (c : Nat) (l : List α), cs = [.slice A l.length c] ∧ l.length ≤ c ∧ d.C w A l.length l ∧ (∀ x ∈ l, ok x) ∧ l.length * P.bytesOf e ≤ reachBytes := by
  rcases open_slice ht h with ⟨rfl, rfl⟩ | ⟨a, len, cap, m, n, D, Pl, rfl, _, hl, hm, hmm, rfl, hi⟩
  · exact ⟨none, 0, [], rfl, Nat.le_refl _, Kd.C_nil d w, by simp, by simp⟩
  · have hlm : len ≤ m := by rw [hmm]; split <;> omega
    have hw : ∀ i, i < len → Light P e (D i) := fun i hi n hn => hx n (by
      simp only [DataW.weights, ht, List.mem_cons, List.mem_append]
      exact .inr (.inl (weights_mem (List.mem_map.2 ⟨i, List.mem_range.2 hi, rfl⟩) hn)))
    have hall : ∀ i : Fin len, ∃ z, ∃ cs', cs'.length = d.sz ∧ d.K w z cs' ∧ ok z ∧ ∀ j u, cs'[j]? = some u → w.cell? (a.add (i.val * d.sz + j)) = some u := fun i => by
      obtain ⟨cs', hc, htr⟩ := hi i.val (by have := i.isLt; omega)
      rw [hC] at hc
      obtain ⟨_, hcl, hat⟩ := World.cells?_some hc
      obtain ⟨z, hK, hok⟩ := hel cs' n _ hcl htr (hw i.val i.isLt)
      refine ⟨z, cs', hcl, hK, hok, fun j u hj => ?_⟩
      have hjl : j < d.sz := by have := (List.getElem?_eq_some_iff.1 hj).1; omega
      rw [← Go.Deep.add_add, hat j hjl, hj]
    refine ⟨some a, cap, List.ofFn fun i => Classical.choose (hall i), by simp, by simpa using hl, ⟨rfl, ?_, fun _ => ⟨a, rfl, fun j p hj => ?_⟩⟩, fun z hz => ?_, ?_⟩
    · simp; unfold maxLen at hm; omega
    · rw [List.getElem?_ofFn] at hj
      split at hj
      · rename_i hjl
        cases hj
        obtain ⟨cs', h1, h2, _, h4⟩ := Classical.choose_spec (hall ⟨j, hjl⟩)
        exact ⟨cs', h1, h2, h4⟩
      · cases hj
    · obtain ⟨i, rfl⟩ := (List.mem_ofFn).1 hz
      obtain ⟨cs', _, _, h3, _⟩ := Classical.choose_spec (hall i)
      exact h3
    · rw [List.length_ofFn]
      have h1 := hx (((List.range len).map D).length + ((List.range (m - len)).map fun j => D (len + j)).length |> (· * P.bytesOf e)) (by simp [DataW.weights, ht])
      refine Nat.le_trans (Nat.mul_le_mul_right _ ?_) h1
      simp
end

theorem cells32 : Tryd.prog.cellsOf 32 = 1 := by kernel_rfl
theorem cells44 : Tryd.prog.cellsOf 44 = 1 := by kernel_rfl
theorem bytes3 : Tryd.prog.bytesOf 3 = 8 := by kernel_rfl
/-- A row that the reach bears. -/
def Borne (x : List Int) : Prop := x.length * 8 ≤ reachBytes
theorem Borne.le {x : List Int} (h : Borne x) : x.length * 8 ≤ 140737488355328 := by
  have h1 : x.length * 8 ≤ reachBytes := h
  have := reachBytes_lt
  omega
set_option maxRecDepth 100000 in
theorem rows_open {H : Type} {enc : TypeId × Value → H} {w : World} {base b0 : Nat} {spare : Nat → Bool} {held : Bool} {r : Reach} {v : Value} {d : DataW H} {ps : List MemPlace} (hv : Value.okWide Tryd.prog w r b0 44 v) (h : DataW.Trod enc Tryd.prog w base spare held 44 v d ps) (hd : Light Tryd.prog 44 d) :
    ∃ (A : Option Addr) (c : Nat) (l : List (List Int)), v = .slice A l.length c ∧ (Kd.slice 3 (Kd.int .i64)).C w A l.length l ∧ l.length ≤ c ∧ ∀ x ∈ l, Borne x := by
  obtain ⟨a, len, cap, rfl⟩ := okWide_slice Tryd.underlying44 hv
  obtain ⟨fuel, hf⟩ := h
  obtain ⟨A, c, l, hc, hlc, hC, hok, _⟩ := row_open_w (Kd.slice 3 (Kd.int .i64)) Tryd.underlying44 cells32 Borne (fun cs' n y hl ht hy => by
    obtain ⟨A, c, l, h1, h2, h3, _, h5⟩ := row_open_w (Kd.int .i64) Tryd.underlying32 cells3 (fun _ => True) (fun cs'' n' y' hl' ht' _ => by
      obtain ⟨z, hz, _, _⟩ := DataW.trod_int Tryd.underlying3 ht'
      exact ⟨z, hz, trivial⟩) ht hy
    have h6 : Borne l := by unfold Borne; rw [bytes3] at h5; exact h5
    exact ⟨l, ⟨A, c, h1, h2, h3⟩, h6⟩) hf hd
  have e : Value.slice a len cap = .slice A l.length c := by
    have := hc
    simp only [Value.cells] at this
    simpa using this
  rw [e]
  exact ⟨A, c, l, rfl, hC, hlc, hok⟩

end Go.Proofs.YtoblkmbmacimiaaDoor.O
