/- graph.Each: a range over the nodes of a word: the iterator's contract, and the law of the statement 'for i := range graph.Each(w)', outermost and within a round. The law of 'for i := range graph.Each(w)' where the loop's variable is one slot. -/
import Derived.RangeFuncNested
import Derived.RangeFuncBound
import Derived.RangeFuncCalls
import Derived.RangeFuncLeaves
import Derived.Shelf.Abstract
import Derived.Shelf.RegionOpen
import Derived.WalkKit
import Derived.OwnWalkIn
import Derived.TacticsInMore
import Derived.LoopNIn
import Derived.LoopIn
import Derived.Test.YtoblkmbmacimiaaDoorBits
import Derived.Test.YtoblkmbmacimiaaDoorBitlist

namespace Go.Proofs.YtoblkmbmacimiaaDoor.B
open Go.RowKit Go.Shelf
attribute [local go_sem] Oper.semAt_some

theorem calls_in {n : Nat} {f : FuncId} {args : Array Value} {w : World} {R : Ending → World → Prop} (h : Calls Tryd.prog f args w R) : CallsIn Fence.wide n Tryd.prog f args w R := callsIn_wide.2 h

theorem nodepth {n : Nat} : Fence.wide.depth.isSome = true → 1 ≤ n := fun h => by simp [Fence.wide] at h

theorem each_calls_ (n : Nat) (l Bw : Nat) (J J' : Nat → World → Prop) (Jx : World → Prop)
    (hJ : ∀ u W, J u W → Tab W ∧ u < 4294967296 ∧ W.heap[Bw]? = some (.cells #[.int .u32 u] 53 (0, 0)))
    (hJ' : ∀ u W, J' u W → W.heap[Bw]? = some (.cells #[.int .u32 u] 53 (0, 0)))
    (hY : ∀ u W, u ≠ 0 → J u W → YieldAt Fence.wide (n - 1) Tryd.prog l #[.int .i64 (Lib.ctz 32 u)] W fun e W' => (e = .returned (.bool true) ∧ J' u W') ∨ (e = .returned (.bool false) ∧ Jx W'))
    (hN : ∀ u W, u ≠ 0 → J' u W → J (nxt u) (W.setCell ⟨Bw, 0, none⟩ (.int .u32 (nxt u))))
    (u : Nat) (W : World) (h0 : J u W) :
    CallsIn Fence.wide n Tryd.prog 69 #[.func (.yield l) #[] #[], .pointer (some ⟨Bw, 0, none⟩)] W fun e W' => (∃ v, e = .returned v) ∧ (J 0 W' ∨ Jx W') := by
  have hro : Fence.wide.round = none := rfl
  refine callsIn_of_wp Tryd.func69 rfl trivial ?_ hro
  simp only [Tryd.ntmps69, List.size_toArray, List.length_cons, List.length_nil, Nat.reduceAdd, Nat.reduceSub, Array.replicate_succ, Array.replicate_zero, List.push_toArray, List.append_toArray, List.nil_append, List.cons_append]
  gi_wp2
  gi_loopw [3] (fun _ wr => ∃ v, J v wr) (fun _ wr => match wr.cell? ⟨Bw, 0, none⟩ with | some v => (intOf v).toNat | none => 0)
  case atStart => exact ⟨u, h0⟩
  case round =>
    obtain ⟨v, hv⟩ := hrel
    obtain ⟨hT, hlt, hb⟩ := hJ v wr hv
    have hc : wr.cell? ⟨Bw, 0, none⟩ = some (.int .u32 v) := by simp [World.cell?, hb]
    by_cases hz : v = 0
    · subst hz
      gi_wp2
      go_end0
      exact ⟨⟨_, rfl⟩, .inl hv⟩
    · have hz1 : ((v : Int) == 0) = false := by simp; omega
      have hz2 : ((v : Int) != 0) = true := by simp; omega
      obtain ⟨fn, tmps, assign, body, hy, hR⟩ := hY v wr hz hv
      gi_wp2_with (refine ⟨trivial, nodepth, ?_⟩; refine (calls_in (tz_calls v hlt _ hT)).mono ?_; rintro e w' ⟨rfl, rfl⟩)
      refine ⟨nodepth, hR.mono ?_⟩
      rintro e W' (⟨rfl, hj⟩ | ⟨rfl, hjx⟩)
      · have hb' := hJ' v W' hj
        have hc' : W'.cell? ⟨Bw, 0, none⟩ = some (.int .u32 v) := by simp [World.cell?, hb']
        have hf' : W'.frozen? ⟨Bw, 0, none⟩ = false := by simp [World.frozen?, hb']
        have hn := hN v W' hz hj
        have hsub := and_u32 v (v - 1) hlt (by omega)
        have hnl := nxt_lt hz
        rw [show ((v - 1 : Nat) : Int) = (v : Int) - 1 by omega] at hsub
        have hmod : ((v : Int) - 1) % 4294967296 = (v : Int) - 1 := by omega
        gi_wp2
        go_roundw
        case rel => exact ⟨_, hn⟩
        case measure =>
          rw [hc, World.cell?_setCell_same' _ _ _ (by rw [hc']; rfl)]
          simp only [intOf, Int.toNat_natCast]
          exact hnl
      · gi_wp2
        refine bodyPost_ret (results_none rfl _ _ _) rfl ?_
        exact ⟨⟨_, rfl⟩, .inr hjx⟩

/-- What the loop over a word may turn between two rounds (the word's own box, blocks of its own that are no cells) is abided. -/
def Stable (B Bw : Nat) (I : World → Prop) : Prop :=
  ∀ W W' row, I W → W.grownBy W' row → (∀ r, row = some r → r = Bw ∨ (B ≤ r ∧ ∃ o : Obj, W.heap[r]? = some o ∧ o.isCells = false)) → I W'

theorem Stable.and {B Bw : Nat} {I I' : World → Prop} (h : Stable B Bw I) (h' : Stable B Bw I') : Stable B Bw (fun W => I W ∧ I' W) := fun W W' row hs hg hr => ⟨h W W' row hs.1 hg hr, h' W W' row hs.2 hg hr⟩
theorem Stable.ex {α : Sort _} {B Bw : Nat} {I : α → World → Prop} (h : ∀ x, Stable B Bw (I x)) : Stable B Bw (fun W => ∃ x, I x W) := fun W W' row ⟨x, hs⟩ hg hr => ⟨x, h x W W' row hs hg hr⟩
theorem Stable.pure {B Bw : Nat} (p : Prop) : Stable B Bw (fun _ => p) := fun _ _ _ hs _ _ => hs
theorem Stable.blk {B Bw g : Nat} {cs : Array Value} {t : TypeId} {m : Nat × Nat} (hne : g ≠ Bw) : Stable B Bw (fun W => W.heap[g]? = some (.cells cs t m)) := fun W W' row hs hg hr => by
  refine (hg.block g (Array.getElem?_eq_some_iff.1 hs).1 ?_).trans hs
  intro e
  rcases hr g e.symm with h | ⟨_, o, ho, hc⟩
  · exact hne h
  · rw [hs] at ho; cases ho; simp [Obj.isCells] at hc
theorem Stable.below {B Bw n₀ : Nat} {w₀ : World} (h1 : n₀ ≤ w₀.heap.size) (hB : n₀ ≤ B) (hw : n₀ ≤ Bw) : Stable B Bw (fun W => Below n₀ w₀ W) := fun W W' row hs hg hr =>
  hs.grown hg (Nat.le_trans h1 hs.size) (fun k e => by rcases hr k e with h | h <;> omega)
theorem Stable.tab {B Bw : Nat} (hB : 0 < B) (hw : 0 < Bw) : Stable B Bw Tab := fun W W' row hs hg hr j hj => by
  have h := hs j hj
  have hl : 0 < W.heap.size := World.block_lt_of_cell? W _ h
  have he : W'.heap[0]? = W.heap[0]? := hg.block 0 hl (fun e => by rcases hr 0 e.symm with h | h <;> omega)
  rw [← h]; simp [World.cell?, he]

theorem blk_set' {W : World} {Bw u : Nat} (hb : W.heap[Bw]? = some (.cells #[.int .u32 u] 53 (0, 0))) (v : Nat) : (W.setCell ⟨Bw, 0, none⟩ (.int .u32 v)).heap[Bw]? = some (.cells #[.int .u32 v] 53 (0, 0)) := by
  simp [World.setCell, Array.getElem?_modify, hb]

/-- What a round's body owes, by the way in which it is left. -/
def eachPost (B Bw u : Nat) (I : Nat → World → Prop) (Ix : Code → World → Prop) (W : World) : Exit → Act → World → Prop
  | .normal, _, W' => KeepsFrom B W W' ∧ W'.heap[Bw]? = W.heap[Bw]? ∧ I (nxt u) W'
  | .ret, _, W' => KeepsFrom B W W' ∧ Ix .ret W'
  | .exit id, _, W' => KeepsFrom B W W' ∧ Ix (.exit id) W'
  | .goto t, _, W' => KeepsFrom B W W' ∧ Ix (.goto t) W'
  | .panic _, _, _ => False
  | .outgrown, _, _ => False

theorem Stable.putObj {B Bw : Nat} {I : World → Prop} (h : Stable B Bw I) {W : World} {l : Nat} {o : Obj} (o' : Obj) (hs : I W) (hB : B ≤ l) (hl : W.heap[l]? = some o) (ho : o.isCells = false) : I (W.putObj l o') :=
  h W _ (some l) hs (grownBy_putObj' W l o') (fun r e => by cases e; exact .inr ⟨hB, o, hl, ho⟩)
theorem Stable.alloc {B Bw : Nat} {I : World → Prop} (h : Stable B Bw I) {W : World} (o : Obj) (hs : I W) : I (W.alloc o) :=
  h W _ none hs (World.grownBy_alloc W o none) (fun r e => by cases e)
theorem Stable.set {B Bw : Nat} {I : World → Prop} (h : Stable B Bw I) {W : World} (v : Value) (hs : I W) : I (W.setCell ⟨Bw, 0, none⟩ v) :=
  h W _ (some Bw) hs (grownBy_setCell' W Bw v) (fun r e => by cases e; exact .inl rfl)

theorem putObj_box {W : World} {l Bw u : Nat} {o : Obj} (o' : Obj) (hb : W.heap[Bw]? = some (.cells #[.int .u32 u] 53 (0, 0))) (hl : W.heap[l]? = some o) (ho : o.isCells = false) : (W.putObj l o').heap[Bw]? = some (.cells #[.int .u32 u] 53 (0, 0)) := by
  refine (World.putObj_heap_other ?_).trans hb
  rintro rfl
  rw [hb] at hl; cases hl; simp [Obj.isCells] at ho
theorem setCell_other {W : World} {l Bw : Nat} {o : Obj} {v : Value} (hl : W.heap[l]? = some o) (hne : l ≠ Bw) : (W.setCell ⟨Bw, 0, none⟩ v).heap[l]? = some o := (Below.heap_setCell W ⟨Bw, 0, none⟩ v l hne).trans hl
theorem box_ne {W : World} {l Bw u : Nat} {o : Obj} (hb : W.heap[Bw]? = some (.cells #[.int .u32 u] 53 (0, 0))) (hl : W.heap[l]? = some o) (ho : o.isCells = false) : l ≠ Bw := by
  rintro rfl
  rw [hb] at hl; cases hl; simp [Obj.isCells] at ho

/-- 'for i := range graph.Each(w) { .. }', an outermost loop. I u: between two rounds, u being left of the word; Ix c: a round has left by the jump c. -/
theorem range_each {g : Operand} {p : Tmp} {assign body : Code} {Q : Exit → Act → World → Prop} {a : Act} {w : World} {n Bw u0 : Nat}
    (hg : a.eval g = .func (.func 69) #[] #[.pointer (some ⟨Bw, 0, none⟩)])
    (hu : u0 < 4294967296) (hb : w.heap[Bw]? = some (.cells #[.int .u32 u0] 53 (0, 0)))
    (I : Nat → World → Prop) (Ix : Code → World → Prop) (hI : ∀ u, Stable w.heap.size Bw (I u)) (hIx : ∀ c, Stable w.heap.size Bw (Ix c)) (hT : ∀ u W, I u W → Tab W) (h0 : I u0 w)
    (Ax : Nat → Act → World → Prop) (hAx : ∀ u a', Stable w.heap.size Bw (Ax u a'))
    (hassign : ∀ (l u : Nat) (W : World) (K : Act → World → Prop), u ≠ 0 → I u W → W.heap[Bw]? = some (.cells #[.int .u32 u] 53 (0, 0)) → (∀ a' W', KeepsFrom w.heap.size W W' → W'.heap[Bw]? = W.heap[Bw]? → I u W' → Ax u a' W' → K a' W') →
      assign.wpIn (Fence.wide.inRound l) (n - 1 - 1) Tryd.prog (Exit.then K (fun _ _ _ => False)) { tmps := (#[p].zip #[.int .i64 (Lib.ctz 32 u)]).foldl (fun t (p, v) => t.setIfInBounds p v) a.tmps, defers := [] } W)
    (hbody : ∀ (l u : Nat) (a' : Act) (W : World), w.heap.size ≤ l → (∃ r, W.heap[l]? = some (.loop r)) → u ≠ 0 → u < 4294967296 → I u W → Ax u a' W → W.heap[Bw]? = some (.cells #[.int .u32 u] 53 (0, 0)) →
      body.wpIn (Fence.wide.inRound l) (n - 1 - 1) Tryd.prog (eachPost w.heap.size Bw u I Ix W) a' W)
    (hdone : ∀ (D : Nat) (W : World), w.heap.size ≤ D → I 0 W → W.heap[D]? = some (.deferred (some [])) → Q .normal { a with defers := { target := .collected D, args := #[] } :: a.defers } W)
    (hstop : ∀ (D : Nat) (c : Code) (W : World), w.heap.size ≤ D → Ix c W → W.heap[D]? = some (.deferred (some [])) → c.wpIn Fence.wide n Tryd.prog Q { a with defers := { target := .collected D, args := #[] } :: a.defers } W) :
    (Code.rangeFunc g #[p] assign body).wpIn Fence.wide n Tryd.prog Q a w := by
  refine wpIn_rangeFunc ?_
  intro fn hfn
  obtain ⟨rec, hrec⟩ : ∃ rec : LoopState → Option Code → Loop, rec = fun st pe => { state := st, pending := pe, fn, tmps := a.tmps, params := #[p], assign, body, defers := w.heap.size } := ⟨_, rfl⟩
  obtain ⟨W1, hW1⟩ : ∃ W1, (w.alloc (.deferred (some []))).alloc (.loop (rec .ready none)) = W1 := ⟨_, rfl⟩
  have hBl : Bw < w.heap.size := (Array.getElem?_eq_some_iff.1 hb).1
  have hL1 : W1.heap[w.heap.size + 1]? = some (.loop (rec .ready none)) := by
    rw [← hW1]; have := World.alloc_heap_new (w.alloc (.deferred (some []))) (.loop (rec .ready none)); rwa [World.size_alloc] at this
  have hK1 : W1.heap[w.heap.size]? = some (.deferred (some [])) := by
    rw [← hW1]; exact (Below.heap_alloc _ _ _ (by simp)).trans (World.alloc_heap_new w _)
  have hI1 : I u0 W1 := by rw [← hW1]; exact (hI _).alloc _ ((hI _).alloc _ h0)
  have hB1 : W1.heap[Bw]? = some (.cells #[.int .u32 u0] 53 (0, 0)) := by
    rw [← hW1]; exact (Below.heap_alloc _ _ _ (by simp; omega)).trans ((Below.heap_alloc _ _ _ hBl).trans hb)
  have e69 : ∀ args w, (callFunc 69 args).run Tryd.prog w = .ok (.enter 69 args) w := enters_of Tryd.func69 (by kernel_rfl) rfl
  refine ⟨w.heap.size + 1, [{ target := .collected w.heap.size, args := #[] }], W1, { target := .fn (.func 69) #[.pointer (some ⟨Bw, 0, none⟩)], args := #[.func (.yield (w.heap.size + 1)) #[] #[]] }, W1, 69,
    #[.func (.yield (w.heap.size + 1)) #[] #[], .pointer (some ⟨Bw, 0, none⟩)], W1, ?_, ?_, ?_, ?_, nodepth, ?_⟩
  · rw [← hW1, hrec]; exact run_enterLoop_outer _ _ _ _ _
  · simp only [resolve, hg]
    simp [go_sem]
  · intro f' hf'; trivial
  · simp [invoke, go_sem, e69]
  · refine (each_calls_ (n - 1) (w.heap.size + 1) Bw
      (fun u W => (I u W ∧ u < 4294967296 ∧ W.heap[Bw]? = some (.cells #[.int .u32 u] 53 (0, 0))) ∧ W.heap[w.heap.size + 1]? = some (.loop (rec .ready none)) ∧ W.heap[w.heap.size]? = some (.deferred (some [])))
      (fun u W => (I (nxt u) W ∧ u < 4294967296 ∧ W.heap[Bw]? = some (.cells #[.int .u32 u] 53 (0, 0))) ∧ W.heap[w.heap.size + 1]? = some (.loop (rec .ready none)) ∧ W.heap[w.heap.size]? = some (.deferred (some [])))
      (fun W => ∃ c, Ix c W ∧ W.heap[w.heap.size + 1]? = some (.loop (rec .done (some c))) ∧ W.heap[w.heap.size]? = some (.deferred (some [])))
      (fun u W h => ⟨hT u W h.1.1, h.1.2⟩) (fun u W h => h.1.2.2) ?_ ?_ u0 W1 ⟨⟨hI1, hu, hB1⟩, hL1, hK1⟩).mono ?_
    · -- one round
      rintro u W hz ⟨⟨hi, hul, hbw⟩, hl, hk⟩
      have hlt : w.heap.size + 1 < W.heap.size := (Array.getElem?_eq_some_iff.1 hl).1
      have hy := run_yield (P := Tryd.prog) (args := #[.int .i64 (Lib.ctz 32 u)]) hl (by rw [hrec]; rfl)
      rw [hrec] at hy
      refine ⟨fn, _, assign, body, hy, roundIn_of_wpIn trivial ?_⟩
      refine hassign _ u W _ hz hi hbw ?_
      intro a' Wa hkfa hba hia hax
      have hbwa := hba.trans hbw
      have hla := hkfa.same _ _ (by omega) hl rfl
      have hka := hkfa.same _ _ (Nat.le_refl _) hk rfl
      have hlta : w.heap.size + 1 < Wa.heap.size := (Array.getElem?_eq_some_iff.1 hla).1
      refine ⟨_, run_beginRound hla (by rw [hrec]), ?_⟩
      have hl2 : (Wa.putObj (w.heap.size + 1) (.loop { rec .ready none with state := .busy })).heap[w.heap.size + 1]? = some (.loop { rec .ready none with state := .busy }) := World.putObj_heap_same hlta
      have hk2 : (Wa.putObj (w.heap.size + 1) (.loop { rec .ready none with state := .busy })).heap[w.heap.size]? = some (.deferred (some [])) := (World.putObj_heap_other (by omega)).trans hka
      have hb2 := putObj_box (.loop { rec .ready none with state := .busy }) hbwa hla rfl
      refine wpIn_mono (hbody _ u a' _ (by omega) ⟨_, hl2⟩ hz hul ((hI u).putObj _ hia (by omega) hla rfl) ((hAx u a').putObj _ hax (by omega) hla rfl) hb2) ?_
      have fin : ∀ (jump : Option Code) (W3 : World), KeepsFrom w.heap.size (Wa.putObj (w.heap.size + 1) (.loop { rec .ready none with state := .busy })) W3 →
          (Instr.endRound (w.heap.size + 1) jump).run Tryd.prog W3 = .ok (.bool jump.isNone) (W3.putObj (w.heap.size + 1) (.loop (rec (if jump.isNone then .ready else .done) jump))) ∧
          W3.heap[w.heap.size + 1]? = some (.loop { rec .ready none with state := .busy }) ∧
          (W3.putObj (w.heap.size + 1) (.loop (rec (if jump.isNone then .ready else .done) jump))).heap[w.heap.size + 1]? = some (.loop (rec (if jump.isNone then .ready else .done) jump)) ∧
          (W3.putObj (w.heap.size + 1) (.loop (rec (if jump.isNone then .ready else .done) jump))).heap[w.heap.size]? = some (.deferred (some [])) := fun jump W3 hk3 => by
        have hl3 := hk3.same _ _ (by omega) hl2 rfl
        have := run_endRound (P := Tryd.prog) jump hl3
        rw [hrec] at this ⊢
        exact ⟨this, by rw [hrec] at hl3; exact hl3, World.putObj_heap_same (Array.getElem?_eq_some_iff.1 hl3).1, (World.putObj_heap_other (by omega)).trans (hk3.same _ _ (Nat.le_refl _) hk2 rfl)⟩
      rintro e a3 W3 hp
      cases e with
      | normal =>
        obtain ⟨hk3, hb3, hi3⟩ := hp
        obtain ⟨hr, hl3, hl4, hk4⟩ := fin none W3 hk3
        exact ⟨_, _, hr, .inl ⟨rfl, ⟨(hI _).putObj _ hi3 (by omega) hl3 rfl, hul, putObj_box _ (hb3.trans hb2) hl3 rfl⟩, hl4, hk4⟩⟩
      | ret =>
        obtain ⟨hk3, hi3⟩ := hp
        obtain ⟨hr, hl3, hl4, hk4⟩ := fin (some .ret) W3 hk3
        exact ⟨_, _, hr, .inr ⟨rfl, .ret, (hIx _).putObj _ hi3 (by omega) hl3 rfl, hl4, hk4⟩⟩
      | exit id =>
        obtain ⟨hk3, hi3⟩ := hp
        obtain ⟨hr, hl3, hl4, hk4⟩ := fin (some (.exit id)) W3 hk3
        exact ⟨_, _, hr, .inr ⟨rfl, .exit id, (hIx _).putObj _ hi3 (by omega) hl3 rfl, hl4, hk4⟩⟩
      | goto t =>
        obtain ⟨hk3, hi3⟩ := hp
        obtain ⟨hr, hl3, hl4, hk4⟩ := fin (some (.goto t)) W3 hk3
        exact ⟨_, _, hr, .inr ⟨rfl, .goto t, (hIx _).putObj _ hi3 (by omega) hl3 rfl, hl4, hk4⟩⟩
      | panic ch => exact hp.elim
      | outgrown => exact hp.elim
    · -- the word without its lowest bit is stored
      rintro u W hz ⟨⟨hi, hul, hbw⟩, hl, hk⟩
      have hW := blk_set' hbw (nxt u)
      exact ⟨⟨(hI _).set _ hi, Nat.lt_trans (nxt_lt hz) hul, hW⟩, setCell_other hl (box_ne hbw hl rfl), setCell_other hk (box_ne hbw hk rfl)⟩
    · rintro e W2 ⟨⟨v, rfl⟩, (⟨⟨hi, _, _⟩, hl, hk⟩ | ⟨c, hi, hl, hk⟩)⟩
      · exact ⟨none, _, by have := run_endLoop (P := Tryd.prog) hl (by rw [hrec]; simp); rw [hrec] at this; exact this, hdone _ _ (Nat.le_refl _) ((hI 0).putObj _ hi (by omega) hl rfl) ((World.putObj_heap_other (by omega)).trans hk)⟩
      · exact ⟨some c, _, by have := run_endLoop (P := Tryd.prog) hl (by rw [hrec]; simp); rw [hrec] at this; exact this, hstop _ c _ (Nat.le_refl _) ((hIx c).putObj _ hi (by omega) hl rfl) ((World.putObj_heap_other (by omega)).trans hk)⟩

end Go.Proofs.YtoblkmbmacimiaaDoor.B

namespace Go.Proofs.YtoblkmbmacimiaaDoor.B
open Go.RowKit Go.Shelf
attribute [local go_sem] Oper.semAt_some

theorem range_each1 {g : Operand} {p p2 : Tmp} {id : Nat} {ty : TypeId} {pos : String} {body : Code} {Q : Exit → Act → World → Prop} {a : Act} {w : World} {n Bw u0 : Nat}
    (hg : a.eval g = .func (.func 69) #[] #[.pointer (some ⟨Bw, 0, none⟩)])
    (hu : u0 < 4294967296) (hb : w.heap[Bw]? = some (.cells #[.int .u32 u0] 53 (0, 0)))
    (I : Nat → World → Prop) (Ix : Code → World → Prop) (hI : ∀ u, Stable w.heap.size Bw (I u)) (hIx : ∀ c, Stable w.heap.size Bw (Ix c)) (hT : ∀ u W, I u W → Tab W) (h0 : I u0 w)
    (hp : p < a.tmps.size)
    (hbody : ∀ (l u : Nat) (W : World), w.heap.size ≤ l → (∃ r, W.heap[l]? = some (.loop r)) → u ≠ 0 → u < 4294967296 → I u W → W.heap[Bw]? = some (.cells #[.int .u32 u] 53 (0, 0)) →
      body.wpIn (Fence.wide.inRound l) (n - 1 - 1) Tryd.prog (eachPost w.heap.size Bw u I Ix W) { tmps := (a.tmps.setIfInBounds p (.int .i64 (Lib.ctz 32 u))).setIfInBounds p2 (.int .i64 (Lib.ctz 32 u)), defers := [] } W)
    (hdone : ∀ (D : Nat) (W : World), w.heap.size ≤ D → I 0 W → W.heap[D]? = some (.deferred (some [])) → Q .normal { a with defers := { target := .collected D, args := #[] } :: a.defers } W)
    (hstop : ∀ (D : Nat) (c : Code) (W : World), w.heap.size ≤ D → Ix c W → W.heap[D]? = some (.deferred (some [])) → c.wpIn Fence.wide n Tryd.prog Q { a with defers := { target := .collected D, args := #[] } :: a.defers } W) :
    (Code.rangeFunc g #[p] (Code.region id #[{ dst := some p2, op := Op.assign (Operand.tmp p), type := ty, pos := pos, after := #[], guard := none }] false) body).wpIn Fence.wide n Tryd.prog Q a w := by
  refine range_each hg hu hb I Ix hI hIx hT h0 (fun u a' _ => a' = { tmps := (a.tmps.setIfInBounds p (.int .i64 (Lib.ctz 32 u))).setIfInBounds p2 (.int .i64 (Lib.ctz 32 u)), defers := [] }) (fun u a' => Stable.pure _) ?_ ?_ hdone hstop
  · intro l u W K hz hi hb hK
    have e : (a.tmps.setIfInBounds p (.int .i64 (Lib.ctz 32 u))).getD p undef = .int .i64 (Lib.ctz 32 u) := by simp [hp]
    gi_wp2
    refine hK _ _ (KeepsFrom.refl _ _) rfl hi ?_
    simp [Act.put, hp]
  · intro l u a' W h1 h2 h3 h4 h5 h6 h7
    subst h6
    exact hbody l u W h1 h2 h3 h4 h5 h7

end Go.Proofs.YtoblkmbmacimiaaDoor.B
