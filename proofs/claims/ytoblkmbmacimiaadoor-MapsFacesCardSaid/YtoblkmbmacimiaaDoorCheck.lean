/- The walk of graph.Check: what is wrong with a graph. -/
import Derived.Test.YtoblkmbmacimiaaDoorGZero
import Derived.Test.YtoblkmbmacimiaaDoorGgraphOf
import Derived.Maps.Own
import Derived.Maps.OwnOps
import Derived.Maps.Views
import Derived.WideKeyEntry
import Derived.DeepKeys4
import Derived.Outline
import Derived.RegionTactic
import Derived.ChangeAlike
import Derived.Carry
import Derived.Lib.Hide
namespace Go.Proofs.YtoblkmbmacimiaaDoor.G
open Go.RowKit Go.Proofs.YtoblkmbmacimiaaDoorW.PrintWords Go.Proofs.YtoblkmbmacimiaaDoorW.PrintLast Go.Proofs.YtoblkmbmacimiaaDoorW.PrintMore
open Go.Maps

/-- What a map's entry laid by 'm[k] op= v' is: it was there, and nothing turns; or it is laid with the zero value, as a store of that value would lay it. -/
theorem entry_between {H : Type} {P : Program} {w : World} {t k e : TypeId} {R : Value → Option (DataW H × List MemPlace)} {b : Nat} {es : Array MapEntry} {clock : Nat} (K : WideMaps.KeyLaw P k) (ht : P.underlying t = some (.map k e)) {z : Value}
    (hz : ∀ u : World, (zeroValue e).run P u = .ok z u) (hb : w.heap[b]? = some (.map es clock)) (F : WideElems.Fit P k R es clock) {key : Value} {kl : Lit} (hkey : keyOf P k key = some kl)
    {v0 : Value} {st : Nat} {es1 : Array MapEntry} {clock1 : Nat} (hE : (Instr.mapEntry t (.map (some b)) key).run P w = .ok (.tuple #[v0, goInt st]) (ChangeMaps.setBlock w b (.map es1 clock1))) :
    (es1 = es ∧ clock1 = clock ∧ (Instr.lookup t (.map (some b)) key false).run P w = .ok v0 w) ∨
    ((Instr.lookup t (.map (some b)) key false).run P w = .ok v0 w ∧ (Instr.mapUpdate t (.map (some b)) key z).run P w = .ok () (ChangeMaps.setBlock w b (.map es1 clock1)) ∧ v0 = z) := by
  have blk : ∀ {es2 : Array MapEntry} {clock2 : Nat}, ChangeMaps.setBlock w b (.map es1 clock1) = ChangeMaps.setBlock w b (.map es2 clock2) → es1 = es2 ∧ clock1 = clock2 := fun h => by
    have h1 := ChangeMaps.heap_setBlock_same hb (.map es1 clock1)
    rw [h, ChangeMaps.heap_setBlock_same hb] at h1
    injection h1 with h1
    injection h1 with h1 h2
    exact ⟨h1.symm, h2.symm⟩
  rcases K.find w hkey es.toList F.keys with ⟨h1, h2⟩ | ⟨j, e0, h1, hj1, hk1⟩
  · have hrun2 : (Instr.mapEntry t (.map (some b)) key).run P w = .ok (.tuple #[z, goInt clock]) (ChangeMaps.setBlock w b (.map (es.push ⟨key, z, clock⟩) (clock + 1))) := by
      simp [Instr.mapEntry, run_underlying ht, MapKept.run_getObj_map hb, K.check w false hkey, h1, hz, MapKept.run_setObj_map _ hb, Result.andThen, ChangeMaps.setBlock]
    have hrun3 : (Instr.mapUpdate t (.map (some b)) key z).run P w = .ok () (ChangeMaps.setBlock w b (.map (es.push ⟨key, z, clock⟩) (clock + 1))) := by
      simp [Instr.mapUpdate, run_underlying ht, MapKept.run_getObj_map hb, K.check w false hkey, h1, MapKept.run_setObj_map _ hb, Result.andThen, ChangeMaps.setBlock]
    have hl : (Instr.lookup t (.map (some b)) key false).run P w = .ok z w := by
      simp [Instr.lookup, run_underlying ht, MapKept.run_getObj_map hb, K.check w es.isEmpty hkey, h1, hz, Result.andThen]
    have heq := hrun2.symm.trans hE
    injection heq with heq1 heq2
    simp only [Value.tuple.injEq, Array.mk.injEq, List.cons.injEq] at heq1
    right
    refine ⟨?_, ?_, heq1.1.symm⟩
    · rw [← heq1.1]; exact hl
    · rw [← heq2]; exact hrun3
  · have hj : es[j]? = some e0 := by simpa using hj1
    have hsame : es.modify j (fun e => { e with key := key }) = es := by
      apply Array.ext'
      rw [Array.toList_modify, ChangeMaps.modify_eq_set _ _ _ _ hj1]
      have : ({ e0 with key := key } : MapEntry) = e0 := by rw [← hk1]
      rw [this]
      exact WideElems.set_self _ _ _ hj1
    have hrun2 : (Instr.mapEntry t (.map (some b)) key).run P w = .ok (.tuple #[e0.val, goInt e0.born]) (ChangeMaps.setBlock w b (.map es clock)) := by
      simp [Instr.mapEntry, run_underlying ht, MapKept.run_getObj_map hb, K.check w false hkey, h1, hj, hk1, K.stays w hkey, hsame, MapKept.run_setObj_map _ hb, Result.andThen, ChangeMaps.setBlock]
    have hl : (Instr.lookup t (.map (some b)) key false).run P w = .ok e0.val w := by
      simp [Instr.lookup, run_underlying ht, MapKept.run_getObj_map hb, K.check w es.isEmpty hkey, h1, Result.andThen]
    have heq := hrun2.symm.trans hE
    injection heq with heq1 heq2
    simp only [Value.tuple.injEq, Array.mk.injEq, List.cons.injEq] at heq1
    obtain ⟨b1, b2⟩ := blk heq2.symm
    left
    refine ⟨b1, b2, ?_⟩
    rw [← heq1.1]; exact hl

/-- How a map's block is put. -/
theorem setBlock_grown {W : World} {b : Nat} {es : Array MapEntry} {clock : Nat} (hb : W.heap[b]? = some (.map es clock)) (o : Obj) : W.grownBy (ChangeMaps.setBlock W b o) (some b) :=
  ⟨rfl, rfl, rfl, by simp [ChangeMaps.setBlock], fun i _ hi => ChangeMaps.heap_setBlock_other hb _ (fun e => hi (by rw [e]))⟩

/-- Is an edge there already, either way? -/
def dup (pre : List S57) (e : S57) : Bool := pre.any fun f => decide (f.f0 = e.f0 ∧ f.f1 = e.f1 ∨ f.f0 = e.f1 ∧ f.f1 = e.f0)
def gchk (n : Int) : List S57 → List S57 → Int
  | _, [] => 0
  | pre, e :: t => if e.f0 < 0 ∨ n ≤ e.f0 ∨ e.f1 < 0 ∨ n ≤ e.f1 then 2 else if e.f0 = e.f1 ∨ dup pre e = true then 3 else if e.f2 < -1048576 ∨ 1048576 < e.f2 then 4 else gchk n (pre ++ [e]) t
def gcheck (n : Int) (l : List S57) : Int := if n < 0 ∨ 10 < n ∨ 45 < l.length then 1 else gchk n [] l

theorem laidOut : laidOutB Tryd.prog = true := by kernel_rfl
theorem row93 : (93 : TypeId) < Tryd.prog.types.size := of_decide_eq_true (by kernel_rfl)
theorem klaw93 : WideMaps.KeyLaw Tryd.prog 93 := deep_law_laid laidOut (m := 2) (by omega) row93 (by kernel_rfl) (by kernel_rfl)
theorem law93 : Keyed Tryd.prog 93 := Keyed.of_law klaw93
theorem cells93 : Tryd.prog.cellsOf 93 = 2 := by kernel_rfl
theorem cells3 : Tryd.prog.cellsOf 3 = 1 := by kernel_rfl
theorem keyType93 : Tryd.prog.keyType 93 = true := by kernel_rfl

theorem lits3 (d : Nat) (a : Int) (ha : (Lit.int .i64 a).wf = true) : Tryd.prog.keyLits (d + 1) 3 [.int .i64 a] = some [.int .i64 a] := by
  unfold Program.keyLits
  rw [Tryd.underlying3]
  simp only [ha, and_self, if_true]
theorem lits93 (d : Nat) (a b : Int) (ha : (Lit.int .i64 a).wf = true) (hb : (Lit.int .i64 b).wf = true) : Tryd.prog.keyLits (d + 2) 93 [.int .i64 a, .int .i64 b] = some [.int .i64 a, .int .i64 b] := by
  unfold Program.keyLits
  rw [Tryd.underlying93]
  simp [cells93, cells3, lits3 d a ha, lits3 d b hb]
theorem key93 (a b : Int) (ha : (Lit.int .i64 a).wf = true) (hb : (Lit.int .i64 b).wf = true) : keyOf Tryd.prog 93 (.agg #[.int .i64 a, .int .i64 b]) = some (.string (keyBytes [.int .i64 a, .int .i64 b])) := by
  have hf : (Value.agg #[.int .i64 a, .int .i64 b]).formed Tryd.prog 93 = true := by simp only [Value.formed, Tryd.underlying93, cells93]; rfl
  obtain ⟨d, hd⟩ : ∃ d, Tryd.prog.types.size + 1 = d + 2 := ⟨Tryd.prog.types.size - 1, by have h : (93 : Nat) < Tryd.prog.types.size := row93; omega⟩
  unfold keyOf
  rw [Tryd.underlying93]
  simp only [keyType93, hf, Bool.and_self, if_true, hd]
  rw [show (Value.agg #[.int .i64 a, .int .i64 b]).cells.toList = [.int .i64 a, .int .i64 b] from rfl, lits93 d a b ha hb]
  rfl

def kl (x y : Int) : Lit := .string (keyBytes [.int .i64 x, .int .i64 y])
def I64 (x : Int) : Prop := (Lit.int .i64 x).wf = true
theorem kl_inj {a b c d : Int} (ha : I64 a) (hb : I64 b) (hc : I64 c) (hd : I64 d) (h : kl a b = kl c d) : a = c ∧ b = d := by
  have h1 := key93 a b ha hb
  have h2 := key93 c d hc hd
  rw [show Lit.string (keyBytes [.int .i64 c, .int .i64 d]) = kl c d from rfl, ← h] at h2
  have := law93.inj h1 h2
  simpa using this

/-- The map in block b: of at most n entries; of two nodes it tells f of them. -/
def PM (W : World) (b n : Nat) (f : Int → Int → Int) : Prop :=
  ∃ D : DataW Unit, W.ownsMap Tryd.prog 93 (plainElem Tryd.prog 3) b n D ∧ IsMap D ∧ ∀ x y, I64 x → I64 y → D.atKey (kl x y) (.lit (.int .i64 0)) = .lit (.int .i64 (f x y))

theorem zero3 (w : World) : (zeroValue 3).run Tryd.prog w = .ok (.int .i64 0) w := by kernel_rfl
theorem PM.made (W : World) : PM (W.alloc (.map #[] 0)) W.heap.size 0 (fun _ _ => 0) := ⟨_, World.ownsMap_made W _ _ _, isMap_empty, fun _ _ _ _ => rfl⟩
theorem PM.kept {W W' : World} {b n : Nat} {f : Int → Int → Int} {row : Option Nat} (h : PM W b n f) (hg : W.grownBy W' row) (hne : some b ≠ row) : PM W' b n f := by
  obtain ⟨D, h1, h2⟩ := h
  exact ⟨D, h1.kept hg hne, h2⟩
theorem PM.move {W W' : World} {b n : Nat} {f : Int → Int → Int} (h : PM W b n f) (he : W'.heap[b]? = W.heap[b]?) : PM W' b n f := by
  obtain ⟨D, ⟨es, clock, hb, F, hs, hD⟩, h2⟩ := h
  exact ⟨D, ⟨es, clock, he.trans hb, F, hs, hD⟩, h2⟩
theorem PM.lt {W : World} {b n : Nat} {f : Int → Int → Int} (h : PM W b n f) : b < W.heap.size := by
  obtain ⟨D, h1, _⟩ := h
  exact h1.lt
theorem PM.below {W W' : World} {b n : Nat} {f : Int → Int → Int} (h : PM W b n f) (hb : Below W.heap.size W W') : PM W' b n f := h.move (hb.block b h.lt)
theorem PM.look {W : World} {b n : Nat} {f : Int → Int → Int} (h : PM W b n f) (x y : Int) (hx : I64 x) (hy : I64 y) :
    (Instr.lookup 91 (.map (some b)) (.agg #[.int .i64 x, .int .i64 y]) false).run Tryd.prog W = .ok (.int .i64 (f x y)) W := by
  obtain ⟨D, h1, h2, h3⟩ := h
  obtain ⟨c, hrun, hat, hw⟩ := h1.lookup_int law93 Tryd.underlying91 Tryd.underlying3 (zero3 W) (key93 x y hx hy)
  have := h3 x y hx hy
  unfold kl at this
  rw [hat] at this
  have e : f x y = c := by simpa using this.symm
  rw [e]
  exact hrun
theorem PM.update {W : World} {b n : Nat} {f : Int → Int → Int} (h : PM W b n f) (hn : n < maxLen) (x y v : Int) (hx : I64 x) (hy : I64 y) (hv : I64 v) :
    ∃ w', (Instr.mapUpdate 91 (.map (some b)) (.agg #[.int .i64 x, .int .i64 y]) (.int .i64 v)).run Tryd.prog W = .ok () w' ∧ PM w' b (n + 1) (fun x' y' => if x' = x ∧ y' = y then v else f x' y') ∧ W.grownBy w' (some b) := by
  obtain ⟨D, h1, h2, h3⟩ := h
  obtain ⟨w', hrun, ho, hg⟩ := h1.update law93 Tryd.underlying91 hn (key93 x y hx hy) (plainElem_int Tryd.underlying3 hv)
  refine ⟨w', hrun, ⟨_, ho, h2.put _ _, fun x' y' hx' hy' => ?_⟩, hg⟩
  show (D.put (kl x y) (.lit (.int .i64 v))).atKey (kl x' y') (.lit (.int .i64 0)) = .lit (.int .i64 (if x' = x ∧ y' = y then v else f x' y'))
  by_cases he : x' = x ∧ y' = y
  · rw [if_pos he, he.1, he.2]
    exact atKey_put_same h2 (law93.key (key93 x y hx hy)) _ _
  · rw [if_neg he, ← h3 x' y' hx' hy']
    exact atKey_put_other (fun e => he (kl_inj hx' hy' hx hy e)) _ _

/-- 'm[k] op= v': the entry is laid, then stored into; between the two the map tells what it told. -/
theorem PM.entry {W : World} {b n : Nat} {f : Int → Int → Int} (h : PM W b n f) (hn : n < maxLen) (x y : Int) (hx : I64 x) (hy : I64 y) :
    ∃ (st : Nat) (W2 : World), (Instr.mapEntry 91 (.map (some b)) (.agg #[.int .i64 x, .int .i64 y])).run Tryd.prog W = .ok (.tuple #[.int .i64 (f x y), goInt st]) W2 ∧ PM W2 b (n + 1) f ∧ W.grownBy W2 (some b) ∧
      ∀ (W3 : World) (v : Int), W3.heap[b]? = W2.heap[b]? → I64 v → ∃ W4, (Instr.entryStore 91 (.map (some b)) (goInt st) (.int .i64 v)).run Tryd.prog W3 = .ok () W4 ∧
        PM W4 b (n + 1) (fun x' y' => if x' = x ∧ y' = y then v else f x' y') ∧ W3.grownBy W4 (some b) := by
  have hup := fun v hv => h.update hn x y v hx hy hv
  have hlook := h.look x y hx hy
  obtain ⟨D, ⟨es, clock, hb, F, hs, hD⟩, h2, h3⟩ := h
  have hkey := key93 x y hx hy
  obtain ⟨v0, st, es1, clock1, hE, hv0, hS⟩ := WideElems.entry_then_store klaw93 Tryd.underlying91 zero3 hb F hkey
  have hW2 : (ChangeMaps.setBlock W b (.map es1 clock1)).heap[b]? = some (.map es1 clock1) := ChangeMaps.heap_setBlock_same hb _
  have fin : ∀ (W3 : World) (v : Int), W3.heap[b]? = (ChangeMaps.setBlock W b (.map es1 clock1)).heap[b]? → I64 v → ∃ W4, (Instr.entryStore 91 (.map (some b)) (goInt st) (.int .i64 v)).run Tryd.prog W3 = .ok () W4 ∧
        PM W4 b (n + 1) (fun x' y' => if x' = x ∧ y' = y then v else f x' y') ∧ W3.grownBy W4 (some b) := fun W3 v hW3 hv => by
    rw [hW2] at hW3
    obtain ⟨es', clock', hr, hu⟩ := hS W3 (.int .i64 v) hW3
    obtain ⟨w', hrun, hpm, _⟩ := hup v hv
    have hw' : w' = ChangeMaps.setBlock W b (.map es' clock') := by
      have := hrun.symm.trans hu
      injection this
    refine ⟨_, hr, hpm.move ?_, setBlock_grown hW3 _⟩
    rw [hw', ChangeMaps.heap_setBlock_same hW3, ChangeMaps.heap_setBlock_same hb]
  rcases entry_between klaw93 Tryd.underlying91 zero3 hb F hkey hE with ⟨rfl, rfl, hl⟩ | ⟨hl, hu⟩
  · refine ⟨st, _, ?_, ⟨D, ⟨_, _, ChangeMaps.heap_setBlock_same hb _, F, Nat.le_succ_of_le hs, hD⟩, h2, h3⟩, setBlock_grown hb _, fin⟩
    have e := (Result.ok.inj (hl.symm.trans hlook)).1
    rw [← e]; exact hE
  · have e := (Result.ok.inj (hl.symm.trans hlook)).1
    obtain ⟨hu, e1⟩ := hu
    obtain ⟨w', hrun, hpm, hg⟩ := hup 0 (by unfold I64; decide)
    have hw' : w' = ChangeMaps.setBlock W b (.map es1 clock1) := by
      have := hrun.symm.trans hu
      injection this
    have hf0 : f x y = 0 := by rw [e1] at e; simpa using e.symm
    have hff : (fun x' y' => if x' = x ∧ y' = y then 0 else f x' y') = f := by
      funext x' y'
      split
      · rename_i hh; rw [hh.1, hh.2, hf0]
      · rfl
    refine ⟨st, _, ?_, ?_, setBlock_grown hb _, fin⟩
    · rw [← e]; exact hE
    · rw [← hw', ← hff]; exact hpm

/-- How many of some edges have these two nodes, the lesser one first. -/
def cnt (pre : List S57) (x y : Int) : Int := ((pre.filter fun f => decide (mn f.f0 f.f1 = x ∧ mx f.f0 f.f1 = y)).length : Int)

theorem cnt_nonneg (pre : List S57) (x y : Int) : 0 ≤ cnt pre x y := by unfold cnt; omega
theorem cnt_le (pre : List S57) (x y : Int) : cnt pre x y ≤ pre.length := by unfold cnt; have := List.length_filter_le (fun f : S57 => decide (mn f.f0 f.f1 = x ∧ mx f.f0 f.f1 = y)) pre; omega
theorem same_pair (a b c d : Int) : (mn a b = mn c d ∧ mx a b = mx c d) ↔ (a = c ∧ b = d ∨ a = d ∧ b = c) := by
  unfold mn mx
  constructor
  · rintro ⟨h1, h2⟩
    split at h1 <;> split at h1 <;> split at h2 <;> split at h2 <;> omega
  · rintro (⟨rfl, rfl⟩ | ⟨rfl, rfl⟩)
    · exact ⟨rfl, rfl⟩
    · constructor <;> (split <;> split <;> omega)
theorem dup_iff (pre : List S57) (e : S57) : dup pre e = true ↔ 0 < cnt pre (mn e.f0 e.f1) (mx e.f0 e.f1) := by
  have h : dup pre e = true ↔ 0 < (pre.filter fun f => decide (mn f.f0 f.f1 = mn e.f0 e.f1 ∧ mx f.f0 f.f1 = mx e.f0 e.f1)).length := by
    rw [List.length_pos_iff_exists_mem]
    simp only [dup, List.any_eq_true, List.mem_filter, decide_eq_true_eq, same_pair]
  rw [h]
  unfold cnt
  omega
theorem cnt_snoc (pre : List S57) (e : S57) : (fun x y => if x = mn e.f0 e.f1 ∧ y = mx e.f0 e.f1 then cnt pre (mn e.f0 e.f1) (mx e.f0 e.f1) + 1 else cnt pre x y) = cnt (pre ++ [e]) := by
  funext x y
  unfold cnt
  rw [List.filter_append, List.length_append]
  by_cases h : x = mn e.f0 e.f1 ∧ y = mx e.f0 e.f1
  · rw [if_pos h, h.1, h.2]; simp
  · rw [if_neg h]
    have : ¬ (mn e.f0 e.f1 = x ∧ mx e.f0 e.f1 = y) := fun h' => h ⟨h'.1.symm, h'.2.symm⟩
    simp [this]

theorem gcheck_large {n : Int} {l : List S57} (h : n < 0 ∨ 10 < n ∨ 45 < l.length) : gcheck n l = 1 := by unfold gcheck; rw [if_pos h]

theorem check_large (n : Int) (A : Option Addr) (c : Nat) (l : List S57) (w : World) (h : n < 0 ∨ 10 < n ∨ 45 < l.length) :
    Calls Tryd.prog 30 #[.agg #[.int .i64 n, .slice A l.length c]] w fun e w' => e = .returned (.int .i64 1) ∧ Below w.heap.size w w' := by
  by_cases h1 : n < 0
  · go_enter Tryd.func30, Tryd.ntmps30
    go_wp2
    go_ret
    exact ⟨rfl, below_alloc (Below.refl _ _) _⟩
  by_cases h2 : 10 < n
  · go_enter Tryd.func30, Tryd.ntmps30
    go_wp2
    go_ret
    exact ⟨rfl, below_alloc (Below.refl _ _) _⟩
  have h3 : (45 : Int) < (l.length : Int) := by omega
  go_enter Tryd.func30, Tryd.ntmps30
  go_wp2
  go_ret
  exact ⟨rfl, below_alloc (Below.refl _ _) _⟩

set_option maxRecDepth 100000 in
set_option maxHeartbeats 8000000 in
theorem check_small (n : Int) (A : Option Addr) (c : Nat) (l : List S57) (w : World) (hl : k57.C w A l.length l) (h1 : 0 ≤ n) (h2 : n ≤ 10) (h3 : l.length ≤ 45) (r : Int) (hr : gchk n [] l = r) :
    Calls Tryd.prog 30 #[.agg #[.int .i64 n, .slice A l.length c]] w fun e w' => e = .returned (.int .i64 r) ∧ Below w.heap.size w w' := by
  have Hr := Lib.hid hr
  clear hr
  have hmm := @run_makeMap Tryd.prog
  go_enter Tryd.func30, Tryd.ntmps30
  go_wp2
  go_loopw [25] (fun i wr => ∃ k : Nat, k ≤ l.length ∧ i = .int .i64 k ∧ Hid (gchk n (l.take k) (l.drop k) = r) ∧ Aside0 (PM wr (w.heap.size + 1) k (cnt (l.take k))) ∧ Aside0 (wr.heap[w.heap.size]? = some (.cells #[.int .i64 n, .slice A l.length c] 24 (0, 0))) ∧ Aside0 (Below w.heap.size w wr)) (fun i _ => l.length - (intOf i).toNat)
  case atStart =>
    exact ⟨0, Nat.zero_le _, rfl, Lib.hid (by simpa using Hr.out), ⟨by have := PM.made (w.alloc (Obj.cells #[Value.int IntKind.i64 n, Value.slice A l.length c] 24)); rwa [World.size_alloc] at this⟩, ⟨blk_alloc (blk_new _ _) _⟩, ⟨below_alloc (below_alloc (Below.refl _ _) _) _⟩⟩
  case round =>
    obtain ⟨k, hk, rfl, HK, HM, HBK, HB⟩ := hrel
    by_cases hlt : k < l.length
    · obtain ⟨e, he⟩ : ∃ e, l[k]? = some e := ⟨l[k], List.getElem?_eq_getElem hlt⟩
      obtain ⟨ad, ea, hx0, hx1, hx2⟩ := at_T57 hl (k : Int) (by omega) (by omega)
      cases ea
      replace hx0 := (HB.out.cell (World.block_lt_of_cell? w _ hx0)).trans hx0
      replace hx1 := (HB.out.cell (World.block_lt_of_cell? w _ hx1)).trans hx1
      replace hx2 := (HB.out.cell (World.block_lt_of_cell? w _ hx2)).trans hx2
      have hrd : rd_T57 l (k : Int) = e := by simp [rd_T57, he]
      rw [hrd] at hx0 hx1 hx2
      rw [Int.toNat_natCast] at hx0 hx1 hx2
      have hstep : gchk n (l.take k) (l.drop k) = if e.f0 < 0 ∨ n ≤ e.f0 ∨ e.f1 < 0 ∨ n ≤ e.f1 then 2 else if e.f0 = e.f1 ∨ dup (l.take k) e = true then 3 else if e.f2 < -1048576 ∨ 1048576 < e.f2 then 4 else gchk n (l.take (k + 1)) (l.drop (k + 1)) := by
        have hge : l[k] = e := by rw [List.getElem?_eq_getElem hlt] at he; exact Option.some.inj he
        rw [List.drop_eq_getElem_cons hlt, hge, gchk, List.take_succ_eq_append_getElem hlt, hge]
      have Hs := Lib.hid hstep
      have He := Lib.hid he
      clear hstep he hrd
      have HB1 := Aside0.mk (below_alloc HB.out (Obj.cells #[.int .i64 e.f0, .int .i64 e.f1, .int .i64 e.f2] 57))
      have HM1 := Aside0.mk (HM.out.below (below_alloc (Below.refl _ _) (Obj.cells #[.int .i64 e.f0, .int .i64 e.f1, .int .i64 e.f2] 57)))
      have HBK1 := Aside0.mk (blk_alloc HBK.out (Obj.cells #[.int .i64 e.f0, .int .i64 e.f1, .int .i64 e.f2] 57))
      have HE1 := Aside0.mk (blk_new wr (Obj.cells #[.int .i64 e.f0, .int .i64 e.f1, .int .i64 e.f2] 57))
      have Hsz := Aside0.mk (below_size HB.out)
      by_cases hA : mn e.f0 e.f1 < 0
      · go_wp2_with (go_at_call 64; refine (graph_Of.calls e.f0 e.f1 e.f2 _ _ _ rfl).mono ?_; rintro e' w1 ⟨rfl, hb1⟩; have n0_ := Aside0.mk (below_step HB1.out hb1); have n1_ := Aside0.mk (HM1.out.below hb1); have n2_ := Aside0.mk (blk_below HBK1.out hb1); have n3_ := Aside0.mk (blk_below HE1.out hb1); clear hb1 HB1 HM1 HBK1 HE1; have d0 := (blk_cell n2_.out 0).trans rfl; have d1 := (blk_cell n3_.out 0).trans rfl; have d2 := (blk_cell n3_.out 1).trans rfl; have d3 := (blk_cell n3_.out 2).trans rfl; have z0 := blk_lt n2_.out; have z1 := blk_lt n3_.out)
        go_ret
        have hr : r = 2 := by rw [← HK.out, Hs.out, if_pos (by unfold mn at hA; split at hA <;> omega)]
        exact ⟨by rw [hr]; rfl, below_alloc n0_.out _⟩
      by_cases hB : n ≤ mx e.f0 e.f1
      · go_wp2_with (go_at_call 64; refine (graph_Of.calls e.f0 e.f1 e.f2 _ _ _ rfl).mono ?_; rintro e' w1 ⟨rfl, hb1⟩; have n0_ := Aside0.mk (below_step HB1.out hb1); have n1_ := Aside0.mk (HM1.out.below hb1); have n2_ := Aside0.mk (blk_below HBK1.out hb1); have n3_ := Aside0.mk (blk_below HE1.out hb1); clear hb1 HB1 HM1 HBK1 HE1; have d0 := (blk_cell n2_.out 0).trans rfl; have d1 := (blk_cell n3_.out 0).trans rfl; have d2 := (blk_cell n3_.out 1).trans rfl; have d3 := (blk_cell n3_.out 2).trans rfl; have z0 := blk_lt n2_.out; have z1 := blk_lt n3_.out)
        go_ret
        have hr : r = 2 := by rw [← HK.out, Hs.out, if_pos (by unfold mx at hB; split at hB <;> omega)]
        exact ⟨by rw [hr]; rfl, below_alloc n0_.out _⟩
      have hin : ¬ (e.f0 < 0 ∨ n ≤ e.f0 ∨ e.f1 < 0 ∨ n ≤ e.f1) := by unfold mn at hA; unfold mx at hB; split at hA <;> split at hB <;> omega
      have Hin := Lib.hid hin
      have hmx0 : 0 ≤ mx e.f0 e.f1 := by unfold mx; split <;> omega
      have hmn1 : mn e.f0 e.f1 < n := by unfold mn; split <;> omega
      clear hin
      have Wx := Lib.hid (show I64 (mn e.f0 e.f1) from WalkArith.wf_i64 (by omega))
      have Wy := Lib.hid (show I64 (mx e.f0 e.f1) from WalkArith.wf_i64 (by omega))
      by_cases hE : mn e.f0 e.f1 = mx e.f0 e.f1
      · have hE1 : (mn e.f0 e.f1 == mx e.f0 e.f1) = true := beq_iff_eq.2 hE
        have Heq := Lib.hid hE
        clear hE
        go_wp2_with (go_at_call 64; refine (graph_Of.calls e.f0 e.f1 e.f2 _ _ _ rfl).mono ?_; rintro e' w1 ⟨rfl, hb1⟩; have n0_ := Aside0.mk (below_step HB1.out hb1); have n1_ := Aside0.mk (HM1.out.below hb1); have n2_ := Aside0.mk (blk_below HBK1.out hb1); have n3_ := Aside0.mk (blk_below HE1.out hb1); clear hb1 HB1 HM1 HBK1 HE1; have d0 := (blk_cell n2_.out 0).trans rfl; have d1 := (blk_cell n3_.out 0).trans rfl; have d2 := (blk_cell n3_.out 1).trans rfl; have d3 := (blk_cell n3_.out 2).trans rfl; have z0 := blk_lt n2_.out; have z1 := blk_lt n3_.out)
        go_ret
        have hr : r = 3 := by rw [← HK.out, Hs.out, if_neg Hin.out, if_pos (.inl (by have := Heq.out; unfold mn mx at this; split at this <;> split at this <;> omega))]
        exact ⟨by rw [hr]; rfl, below_alloc n0_.out _⟩
      have hE1 : (mn e.f0 e.f1 == mx e.f0 e.f1) = false := beq_eq_false_iff_ne.2 hE
      have Hne := Lib.hid (show ¬ e.f0 = e.f1 from fun h => hE (by rw [h]; unfold mn mx; simp))
      clear hE
      have hc0 : 0 ≤ cnt (l.take k) (mn e.f0 e.f1) (mx e.f0 e.f1) := cnt_nonneg _ _ _
      have hc1 : cnt (l.take k) (mn e.f0 e.f1) (mx e.f0 e.f1) ≤ 45 := Int.le_trans (cnt_le _ _ _) (by have := List.length_take_le k l; omega)
      have Hdup := Lib.hid (dup_iff (l.take k) e)
      by_cases hD : 0 < cnt (l.take k) (mn e.f0 e.f1) (mx e.f0 e.f1)
      · go_wp2_with (go_at_call 64; refine (graph_Of.calls e.f0 e.f1 e.f2 _ _ _ rfl).mono ?_; rintro e' w1 ⟨rfl, hb1⟩; have n0_ := Aside0.mk (below_step HB1.out hb1); have n1_ := Aside0.mk (HM1.out.below hb1); have n2_ := Aside0.mk (blk_below HBK1.out hb1); have n3_ := Aside0.mk (blk_below HE1.out hb1); clear hb1 HB1 HM1 HBK1 HE1; have d0 := (blk_cell n2_.out 0).trans rfl; have d1 := (blk_cell n3_.out 0).trans rfl; have d2 := (blk_cell n3_.out 1).trans rfl; have d3 := (blk_cell n3_.out 2).trans rfl; have z0 := blk_lt n2_.out; have z1 := blk_lt n3_.out; have L := (n1_.out.below (below_alloc (Below.refl _ _) (Obj.cells #[.int .i64 (mn e.f0 e.f1), .int .i64 (mx e.f0 e.f1)] 93))).look _ _ Wx.out Wy.out)
        go_ret
        have hr : r = 3 := by rw [← HK.out, Hs.out, if_neg Hin.out, if_pos (.inr (Hdup.out.2 hD))]
        exact ⟨by rw [hr]; rfl, below_alloc n0_.out _⟩
      by_cases hF : e.f2 < -1048576
      · go_wp2_with (go_at_call 64; refine (graph_Of.calls e.f0 e.f1 e.f2 _ _ _ rfl).mono ?_; rintro e' w1 ⟨rfl, hb1⟩; have n0_ := Aside0.mk (below_step HB1.out hb1); have n1_ := Aside0.mk (HM1.out.below hb1); have n2_ := Aside0.mk (blk_below HBK1.out hb1); have n3_ := Aside0.mk (blk_below HE1.out hb1); clear hb1 HB1 HM1 HBK1 HE1; have d0 := (blk_cell n2_.out 0).trans rfl; have d1 := (blk_cell n3_.out 0).trans rfl; have d2 := (blk_cell n3_.out 1).trans rfl; have d3 := (blk_cell n3_.out 2).trans rfl; have z0 := blk_lt n2_.out; have z1 := blk_lt n3_.out; have L := (n1_.out.below (below_alloc (Below.refl _ _) (Obj.cells #[.int .i64 (mn e.f0 e.f1), .int .i64 (mx e.f0 e.f1)] 93))).look _ _ Wx.out Wy.out)
        go_ret
        have hr : r = 4 := by rw [← HK.out, Hs.out, if_neg Hin.out, if_neg (fun h => h.elim Hne.out (fun h => by have := Hdup.out.1 h; omega)), if_pos (.inl hF)]
        exact ⟨by rw [hr]; rfl, below_alloc n0_.out _⟩
      by_cases hG : 1048576 < e.f2
      · go_wp2_with (go_at_call 64; refine (graph_Of.calls e.f0 e.f1 e.f2 _ _ _ rfl).mono ?_; rintro e' w1 ⟨rfl, hb1⟩; have n0_ := Aside0.mk (below_step HB1.out hb1); have n1_ := Aside0.mk (HM1.out.below hb1); have n2_ := Aside0.mk (blk_below HBK1.out hb1); have n3_ := Aside0.mk (blk_below HE1.out hb1); clear hb1 HB1 HM1 HBK1 HE1; have d0 := (blk_cell n2_.out 0).trans rfl; have d1 := (blk_cell n3_.out 0).trans rfl; have d2 := (blk_cell n3_.out 1).trans rfl; have d3 := (blk_cell n3_.out 2).trans rfl; have z0 := blk_lt n2_.out; have z1 := blk_lt n3_.out; have L := (n1_.out.below (below_alloc (Below.refl _ _) (Obj.cells #[.int .i64 (mn e.f0 e.f1), .int .i64 (mx e.f0 e.f1)] 93))).look _ _ Wx.out Wy.out)
        go_ret
        have hr : r = 4 := by rw [← HK.out, Hs.out, if_neg Hin.out, if_neg (fun h => h.elim Hne.out (fun h => by have := Hdup.out.1 h; omega)), if_pos (.inr hG)]
        exact ⟨by rw [hr]; rfl, below_alloc n0_.out _⟩
      go_wp2_with (go_at_call 64; refine (graph_Of.calls e.f0 e.f1 e.f2 _ _ _ rfl).mono ?_; rintro e' w1 ⟨rfl, hb1⟩; have n0_ := Aside0.mk (below_step HB1.out hb1); have n1_ := Aside0.mk (HM1.out.below hb1); have n2_ := Aside0.mk (blk_below HBK1.out hb1); have n3_ := Aside0.mk (blk_below HE1.out hb1); clear hb1 HB1 HM1 HBK1 HE1; have d0 := (blk_cell n2_.out 0).trans rfl; have d1 := (blk_cell n3_.out 0).trans rfl; have d2 := (blk_cell n3_.out 1).trans rfl; have d3 := (blk_cell n3_.out 2).trans rfl; have z0 := blk_lt n2_.out; have z1 := blk_lt n3_.out; have L := (n1_.out.below (below_alloc (Below.refl _ _) (Obj.cells #[.int .i64 (mn e.f0 e.f1), .int .i64 (mx e.f0 e.f1)] 93))).look _ _ Wx.out Wy.out)
      obtain ⟨st, W2, hE2, M2, g2, hS⟩ := PM.entry (W := (w1.alloc (Obj.cells #[.int .i64 (mn e.f0 e.f1), .int .i64 (mx e.f0 e.f1)] 93)).drew) ((n1_.out.below (below_alloc (Below.refl _ _) (Obj.cells #[.int .i64 (mn e.f0 e.f1), .int .i64 (mx e.f0 e.f1)] 93))).move rfl) (by unfold maxLen; omega) _ _ Wx.out Wy.out
      have L2 := M2.look _ _ Wx.out Wy.out
      have L1 := (((n1_.out.below (below_alloc (Below.refl _ _) (Obj.cells #[.int .i64 (mn e.f0 e.f1), .int .i64 (mx e.f0 e.f1)] 93))).move (W' := (w1.alloc (Obj.cells #[.int .i64 (mn e.f0 e.f1), .int .i64 (mx e.f0 e.f1)] 93)).drew) rfl)).look _ _ Wx.out Wy.out
      obtain ⟨W4, hs4, M4, g4⟩ := hS W2 (cnt (l.take k) (mn e.f0 e.f1) (mx e.f0 e.f1) + 1) rfl (WalkArith.wf_i64 (by omega))
      replace hs4 : (Instr.entryStore 91 (.map (some (w.heap.size + 1))) (.int .i64 (st : Int)) (.int .i64 (cnt (l.take k) (mn e.f0 e.f1) (mx e.f0 e.f1) + 1))).run Tryd.prog W2 = .ok () W4 := hs4
      replace hE2 : (Instr.mapEntry 91 (.map (some (w.heap.size + 1))) (.agg #[.int .i64 (mn e.f0 e.f1), .int .i64 (mx e.f0 e.f1)])).run Tryd.prog (w1.alloc (Obj.cells #[.int .i64 (mn e.f0 e.f1), .int .i64 (mx e.f0 e.f1)] 93)).drew = .ok (.tuple #[.int .i64 (cnt (l.take k) (mn e.f0 e.f1) (mx e.f0 e.f1)), .int .i64 (st : Int)]) W2 := hE2
      have N2 := Aside0.mk M2
      have N4 := Aside0.mk M4
      have G2 := Aside0.mk g2
      have G4 := Aside0.mk g4
      clear M2 M4 g2 g4 hS
      have hfo : Tryd.prog.follows .mixedOrders = true := by kernel_rfl
      go_region
      all_goals go_wp2
      all_goals
        have hlen : k + 1 ≤ l.length := by omega
        refine ⟨⟨k + 1, hlen, by go_num, Lib.hid ?_, ⟨?_⟩, ⟨?_⟩, ⟨?_⟩⟩, by simp [intOf]; omega⟩
        · rw [← HK.out, Hs.out, if_neg Hin.out, if_neg (fun h => h.elim Hne.out (fun h => by have := Hdup.out.1 h; omega)), if_neg (by omega)]
        · have hsn := cnt_snoc (l.take k) e
          rw [List.take_succ_eq_append_getElem hlt, show l[k] = e from by have := He.out; rw [List.getElem?_eq_getElem hlt] at this; exact Option.some.inj this, ← hsn]
          obtain ⟨D, hD1, hD2⟩ := N4.out
          exact ⟨D, hD1.mono (by omega), hD2⟩
        · exact blk_grown (blk_grown (blk_drew (blk_alloc n2_.out _)) G2.out (by simp)) G4.out (by simp)
        · have hb0 := (below_alloc n0_.out (Obj.cells #[.int .i64 (mn e.f0 e.f1), .int .i64 (mx e.f0 e.f1)] 93)).drew
          have hb2 := hb0.grown G2.out hb0.size (fun j e => by cases e; omega)
          exact hb2.grown G4.out hb2.size (fun j e => by cases e; omega)
    · obtain rfl : k = l.length := by omega
      clear hlt
      go_wp2
      go_ret
      have hr : r = 0 := by rw [← HK.out]; simp [gchk]
      exact ⟨by rw [hr]; rfl, HB.out⟩

def graph_Check.f (n : Int) (l : List S57) : Option Int := some (gcheck n l)
theorem graph_Check.calls (n : Int) (A : Option Addr) (c : Nat) (l : List S57) (r : Int) (w : World) (hl : k57.C w A l.length l) (_hc : l.length ≤ c) (h : graph_Check.f n l = some r) :
    Calls Tryd.prog 30 #[.agg #[.int .i64 n, .slice A l.length c]] w fun e w' => e = .returned (.int .i64 r) ∧ Below w.heap.size w w' := by
  cases h
  unfold gcheck
  by_cases hb : n < 0 ∨ 10 < n ∨ 45 < l.length
  · rw [if_pos hb]; exact check_large n A c l w hb
  · rw [if_neg hb]; exact check_small n A c l w hl (by omega) (by omega) (by omega) _ rfl

end Go.Proofs.YtoblkmbmacimiaaDoor.G
