/- The walk of colour.Count's inner function: node by node, by how many colours are in use. -/
import Derived.Test.YtoblkmbmacimiaaDoorMay
import Derived.Test.YtoblkmbmacimiaaDoorCounted
import Derived.Test.YtoblkmbmacimiaaDoorHeld
import Derived.Test.YtoblkmbmacimiaaDoorEach1
namespace Go.Proofs.YtoblkmbmacimiaaDoor.G
open Go.RowKit Go.Shelf Go.Proofs.YtoblkmbmacimiaaDoorW.PrintWords Go.Proofs.YtoblkmbmacimiaaDoorW.PrintLast Go.Proofs.YtoblkmbmacimiaaDoorW.PrintMore
open Go.Proofs.YtoblkmbmacimiaaDoor.B Go.Proofs.YtoblkmbmacimiaaDoor.L
attribute [local go_sem] Oper.semAt_some

/-- A row of numbers in a block. -/
def Row (W : World) (b : Nat) (t : TypeId) (K : IntKind) (n : Nat) (l : List Int) : Prop := ∃ cur : Array Value, W.heap[b]? = some (.cells cur t (0, 0)) ∧ ∀ j, j < n → cur[j]? = some (.int K (rd l (j : Int)))
theorem Row.move {W W' : World} {b : Nat} {t : TypeId} {K : IntKind} {n : Nat} {l : List Int} (h : Row W b t K n l) (hm : W'.heap[b]? = W.heap[b]?) : Row W' b t K n l := by
  obtain ⟨cur, h1, h2⟩ := h
  exact ⟨cur, hm.trans h1, h2⟩
theorem Row.cell {W : World} {b : Nat} {t : TypeId} {K : IntKind} {n : Nat} {l : List Int} (h : Row W b t K n l) {j : Nat} (hj : j < n) : W.cell? ⟨b, j, none⟩ = some (.int K (rd l (j : Int))) := by
  obtain ⟨cur, h1, h2⟩ := h
  exact (blk_cell h1 j).trans (h2 j hj)
theorem Row.frozen {W : World} {b : Nat} {t : TypeId} {K : IntKind} {n : Nat} {l : List Int} (h : Row W b t K n l) (j : Nat) : W.frozen? ⟨b, j, none⟩ = false := by
  obtain ⟨cur, h1, h2⟩ := h
  exact blk_frozen h1 j
theorem Row.C {W : World} {b : Nat} {t : TypeId} {K : IntKind} {n : Nat} {l : List Int} (h : Row W b t K n l) (hl : l.length = n) (hm : n ≤ 1024) : (Kd.int K).C W (some ⟨b, 0, none⟩) l.length l := by
  refine ⟨rfl, by omega, fun _ => ⟨_, rfl, fun j p hj => ?_⟩⟩
  obtain ⟨hjl, hp⟩ := List.getElem?_eq_some_iff.1 hj
  refine ⟨[.int K p], rfl, rfl, fun i u hu => ?_⟩
  have h0 : i = 0 := by have := (List.getElem?_eq_some_iff.1 hu).1; simpa using this
  subst h0
  cases hu
  have hc := h.cell (j := j) (by omega)
  have hr : rd l (j : Int) = p := by unfold rd; rw [Int.toNat_natCast, List.getD_eq_getElem?_getD, hj]; rfl
  rw [hr] at hc
  rw [add_plain, Nat.add_zero, show j * (Kd.int K).sz = j from Nat.mul_one j]
  exact hc

/-- What the inner function finds in memory. -/
structure CS (W : World) (bg bp bk bc pb gn lb : Nat) (gv vn vl : Value) (n k : Nat) (nb l : List Int) : Prop where
  hg : W.heap[bg]? = some (.cells #[.int .i64 n, gv] 24 (0, 0))
  hp : W.heap[bp]? = some (.cells #[.pointer (some ⟨pb, 0, none⟩)] 80 (0, 0))
  hk : W.heap[bk]? = some (.cells #[.int .i64 k] 3 (0, 0))
  hc : W.heap[bc]? = some (.cells #[.func (.func 53) #[] #[.pointer (some ⟨bg, 0, none⟩), .pointer (some ⟨bp, 0, none⟩), .pointer (some ⟨bk, 0, none⟩), .pointer (some ⟨bc, 0, none⟩)]] 82 (0, 0))
  hpb : W.heap[pb]? = some (.cells #[vn, vl] 85 (0, 0))
  hrow : 0 < n → ∃ cn cl, vn = .slice (some ⟨gn, 0, none⟩) n cn ∧ vl = .slice (some ⟨lb, 0, none⟩) n cl ∧ Row W gn 53 .u32 n nb ∧ Row W lb 3 .i64 n l ∧ lb ≠ bk
  hT : Tab W

theorem CS.drew {W : World} {bg bp bk bc pb gn lb : Nat} {gv vn vl : Value} {n k : Nat} {nb l : List Int} (h : CS W bg bp bk bc pb gn lb gv vn vl n k nb l) : CS W.drew bg bp bk bc pb gn lb gv vn vl n k nb l := ⟨h.hg, h.hp, h.hk, h.hc, h.hpb, h.hrow, h.hT⟩

def CntP (nb : List Int) (k d : Nat) (l : List Int) (i used : Nat) (w : World) (e : Ending) (w' : World) : Prop := e = .returned (.int .i64 (wrap64 (L.cnt nb k d l i used))) ∧ Below w.heap.size w w'

theorem blk_ne {W : World} {a b : Nat} {c c' : Array Value} {t t' : TypeId} {m m' : Nat × Nat} (h1 : W.heap[a]? = some (.cells c t m)) (h2 : W.heap[b]? = some (.cells c' t' m')) (ht : t ≠ t') : a ≠ b := by
  rintro rfl
  rw [h1] at h2
  injection h2 with h2
  injection h2 with _ h2
  exact ht h2

theorem tab_same {W W' : World} (hT : Tab W) (h : W'.heap[0]? = W.heap[0]?) : Tab W' := fun j hj => by
  have := hT j hj
  rw [← this]; simp [World.cell?, h]
theorem tab_ne {W : World} {b : Nat} {t : TypeId} {n : Nat} {l : List Int} (hT : Tab W) (h : Row W b t .i64 n l) (hn : 0 < n) : b ≠ 0 := by
  rintro rfl
  have h1 := h.cell hn
  rw [hT 0 (by omega)] at h1
  cases h1

/-- Between two rounds. -/
def CntI (w : World) (x i used : Nat) (F : Nat → Int) (R : Int) (u' : Nat) (W : World) : Prop :=
  ∃ s : Int, (wrap64 (s + sumL (bitsOf u') F) = wrap64 R ∧ ∀ c ∈ bitsOf u', x.testBit c = true) ∧ W.heap[w.heap.size]? = some (.cells #[.int .i64 i] 3 (0, 0)) ∧ W.heap[w.heap.size + 1]? = some (.cells #[.int .i64 used] 3 (0, 0)) ∧ W.heap[w.heap.size + 2]? = some (.cells #[.int .i64 (wrap64 s)] 2 (0, 0)) ∧ Below w.heap.size w W ∧ Tab W

set_option maxHeartbeats 4000000 in
set_option maxRecDepth 100000 in
theorem cnt_calls (bg bp bk bc pb gn lb : Nat) (gv vn vl : Value) (n k : Nat) (ls : List S57) (nb : List Int) (g : L.Good n ls) (hn : NearI n ls nb) (hk12 : k ≤ 12) :
    ∀ (d i used : Nat) (l : List Int) (w : World), i + d = n → Col n (E ls) k l i used → CS w bg bp bk bc pb gn lb gv vn vl n k nb l →
    Calls Tryd.prog 53 #[.int .i64 i, .int .i64 used, .pointer (some ⟨bg, 0, none⟩), .pointer (some ⟨bp, 0, none⟩), .pointer (some ⟨bk, 0, none⟩), .pointer (some ⟨bc, 0, none⟩)] w (CntP nb k d l i used w) := by
  intro d
  induction d with
  | zero =>
    intro i used l w hi hcol hs
    obtain rfl : i = n := by omega
    have c0 : w.cell? ⟨bg, 0, none⟩ = some (.int .i64 i) := (blk_cell hs.hg 0).trans rfl
    have hlt := blk_lt hs.hg
    have hlt1 : bg < w.heap.size + 1 := by omega
    have hP : CntP nb k 0 l i used w = fun e w' => e = .returned (.int .i64 1) ∧ Below w.heap.size w w' := by
      unfold CntP L.cnt; rw [wrap_one]
    rw [hP]
    clear hs hP
    go_enter Tryd.func53, Tryd.ntmps53
    go_wp2
    go_ret
    exact ⟨rfl, below_alloc (below_alloc (Below.refl _ _) _) _⟩
  | succ d ih =>
    intro i used l w hi hcol hs
    have hin : i < n := by omega
    obtain ⟨cn, cl, rfl, rfl, rn, rl, hne⟩ := hs.hrow (by omega)
    have hll := hcol.len
    have huk := hcol.uk
    obtain ⟨u, hu, hu32, hub⟩ := near_bits hn hin
    obtain ⟨x, hx, hxl, hxb⟩ := mayW_is l u (min (used + 1) k) (by omega) (fun j hj => by have := (hcol.lt j (nbr_lt g ((hub j).1 hj))).1; omega)
    have hx32' : x < 4294967296 := Nat.lt_trans hxl (Nat.lt_of_le_of_lt (Nat.pow_le_pow_right (by decide) (show min (used + 1) k ≤ 12 by omega)) (by decide))
    have h10 := g.n10
    have hmin : ∀ ats ty, Builtin.min_ ats ty #[.int .i64 ((used : Int) + 1), .int .i64 (k : Int)] = pure (.int .i64 ((min (used + 1) k : Nat) : Int)) := fun ats ty => by
      rw [min_two, min2_int]
      have e : (if (k : Int) < (used : Int) + 1 then (k : Int) else (used : Int) + 1) = ((min (used + 1) k : Nat) : Int) := by split <;> omega
      rw [e]; rfl
    obtain ⟨m, hm⟩ : ∃ m, min (used + 1) k = m := ⟨_, rfl⟩
    have hml : m ≤ 12 := by omega
    have hmu : m ≤ used + 1 ∧ m ≤ k := by omega
    have hmk : used < m ∨ used = k := by omega
    rw [hm] at hmin hx hxl hxb
    have Hm := Lib.hid hm
    clear hm
    have may : ∀ W, Below w.heap.size w W → Calls Tryd.prog 54 #[.pointer (some ⟨pb, 0, none⟩), .int .i64 i, .int .i64 (m : Int)] W fun e w' => e = .returned (.int .u32 x) ∧ Below W.heap.size W w' := fun W hb => by
      have hnb := (rn.move (hb.block gn (blk_lt rn.choose_spec.1))).C hn.1 (by omega)
      have hlb := (rl.move (hb.block lb (blk_lt rl.choose_spec.1))).C hll (by omega)
      refine (painter_may.calls pb (some ⟨gn, 0, none⟩) (some ⟨lb, 0, none⟩) cn cl nb l i _ u W (by rw [hn.1, hll]; exact (hb.block pb (blk_lt hs.hpb)).trans hs.hpb) hnb hlb (by omega) (by rw [hn.1]; omega) hu hu32 (fun j hj => by rw [hll]; exact nbr_lt g ((hub j).1 hj)) (by omega) (by omega) (fun j hj => by have := (hcol.lt j (nbr_lt g ((hub j).1 hj))).1; omega) (tab_below hs.hT hb)).mono fun e w' ⟨h1, h2⟩ => ⟨?_, h2⟩
      rw [h1, Int.toNat_natCast, hx]
    refine (callsIn_wide (n := 9)).1 ?_
    refine callsIn_of_wp_marks Tryd.func53 rfl trivial ?_ rfl
    simp only [Tryd.ntmps53, List.size_toArray, List.length_cons, List.length_nil, Nat.reduceAdd, Nat.reduceSub, Array.replicate_succ, Array.replicate_zero, List.push_toArray, List.append_toArray, List.nil_append, List.cons_append]
    have c0 : w.cell? ⟨bg, 0, none⟩ = some (.int .i64 n) := (blk_cell hs.hg 0).trans rfl
    have c1 : w.cell? ⟨bp, 0, none⟩ = some (.pointer (some ⟨pb, 0, none⟩)) := (blk_cell hs.hp 0).trans rfl
    have c2 : w.cell? ⟨bk, 0, none⟩ = some (.int .i64 k) := (blk_cell hs.hk 0).trans rfl
    have lt0 := blk_lt hs.hg
    have lt1 := blk_lt hs.hp
    have lt2 := blk_lt hs.hk
    have c1' : ∀ o1 o2 o3, (((w.alloc o1).alloc o2).alloc o3).cell? ⟨bp, 0, none⟩ = some (.pointer (some ⟨pb, 0, none⟩)) := fun o1 o2 o3 => ((below_alloc (below_alloc (below_alloc (Below.refl w.heap.size w) o1) o2) o3).cell lt1).trans c1
    have c2' : ∀ o1 o2 o3, (((w.alloc o1).alloc o2).alloc o3).cell? ⟨bk, 0, none⟩ = some (.int .i64 k) := fun o1 o2 o3 => ((below_alloc (below_alloc (below_alloc (Below.refl w.heap.size w) o1) o2) o3).cell lt2).trans c2
    have hni : ((i : Int) == (n : Int)) = false := by simp; omega
    have HS := Lib.hid hs
    have HC := Lib.hid hcol
    clear hs hcol
    obtain ⟨TOT, hTOT⟩ : ∃ T, L.cnt nb k (d + 1) l i used = T := ⟨_, rfl⟩
    have HT := Lib.hid hTOT
    unfold CntP
    rw [hTOT]
    clear hTOT
    gi_wp2_with (first | (refine ⟨trivial, ?_⟩; (first | ((with_reducible refine (calls_in (may _ ?mb)).mono ?_); (case mb => exact below_alloc (below_alloc (below_alloc (Below.refl _ _) _) _) _); rintro e w1 ⟨rfl, hb1⟩) | ((with_reducible refine (calls_in (each_calls x _)).mono ?_); rintro e w' ⟨rfl, rfl⟩))))
    obtain ⟨W0, hW0⟩ : ∃ W0, w1.alloc (Obj.cells #[Value.int IntKind.u32 x] 53) = W0 := ⟨_, rfl⟩
    rw [hW0]
    have hsz1 : w.heap.size + 3 ≤ w1.heap.size := by have := hb1.size; simpa using this
    have hbA : Below w.heap.size w w1 := (below_alloc (below_alloc (below_alloc (Below.refl _ _) _) _) _).trans (hb1.mono (by simp; omega))
    have hB0 : Below w.heap.size w W0 := by rw [← hW0]; exact below_alloc hbA _
    have blk1 : ∀ b, b < w.heap.size + 3 → W0.heap[b]? = ((((w.alloc (Obj.cells #[Value.int IntKind.i64 i] 3)).alloc (Obj.cells #[Value.int IntKind.i64 used] 3)).alloc (Obj.cells #[Value.int IntKind.i64 0] 2))).heap[b]? := fun b hb => by
      rw [← hW0]
      exact (Below.heap_alloc _ _ _ (by omega)).trans (hb1.block b (by simp; omega))
    have b0 : W0.heap[w.heap.size]? = some (.cells #[.int .i64 i] 3 (0, 0)) := (blk1 _ (by omega)).trans (blk_alloc (blk_alloc (blk_new _ _) _) _)
    have b1 : W0.heap[w.heap.size + 1]? = some (.cells #[.int .i64 used] 3 (0, 0)) := (blk1 _ (by omega)).trans (by
      refine blk_alloc ?_ _; have := blk_new (w.alloc (Obj.cells #[Value.int IntKind.i64 i] 3)) (Obj.cells #[Value.int IntKind.i64 used] 3); rwa [World.size_alloc] at this)
    have b2 : W0.heap[w.heap.size + 2]? = some (.cells #[.int .i64 0] 2 (0, 0)) := (blk1 _ (by omega)).trans (by
      have := blk_new ((w.alloc (Obj.cells #[Value.int IntKind.i64 i] 3)).alloc (Obj.cells #[Value.int IntKind.i64 used] 3)) (Obj.cells #[Value.int IntKind.i64 0] 2); rwa [World.size_alloc, World.size_alloc] at this)
    have bx : W0.heap[w1.heap.size]? = some (.cells #[.int .u32 x] 53 (0, 0)) := by rw [← hW0]; exact blk_new _ _
    have hszW : W0.heap.size = w1.heap.size + 1 := by rw [← hW0]; simp
    clear hW0 blk1 c1' c2'
    obtain ⟨F, hF⟩ : ∃ F : Nat → Int, (fun c => if c = used then ((k : Int) - used) * L.cnt nb k d (l.set i (c : Int)) (i + 1) (used + 1) else L.cnt nb k d (l.set i (c : Int)) (i + 1) used) = F := ⟨_, rfl⟩
    have hR : sumL (bitsOf x) F = TOT := by
      rw [← HT.out, L.cnt, hu, Int.toNat_natCast, Hm.out, hx, Int.toNat_natCast, hF]
    have HF := Lib.hid hF
    clear hF
    have hT0 : Tab W0 := tab_below HS.out.hT hB0
    refine range_each1 (Bw := w1.heap.size) (u0 := x) rfl hx32' bx (CntI w x i used F TOT) (fun _ _ => False)
      (fun u' => Stable.ex fun s => (Stable.pure _).and ((Stable.blk (by omega)).and ((Stable.blk (by omega)).and ((Stable.blk (by omega)).and ((Stable.below (Nat.le_refl _) (by omega) (by omega)).and (Stable.tab (by omega) (by omega)))))))
      (fun c => Stable.pure _) (fun u' W h => by obtain ⟨_, _, _, _, _, _, h⟩ := h; exact h)
      ⟨0, ⟨by rw [Int.zero_add, hR], fun c hc => (mem_bitsOf x hx32' c).1 hc⟩, b0, b1, by rw [wrap_zero]; exact b2, hB0, hT0⟩ (by simp) ?body ?done (fun D c W hD h hK => h.elim)
    case body =>
      rintro lp u' W hlp hlr hz hul ⟨s, ⟨hsum, hmem⟩, k0, k1, k2, hB, hTW⟩ hbw
      simp only [List.setIfInBounds_toArray, List.set_cons_zero, List.set_cons_succ]
      have hbits := bitsOf_cons hz
      rw [hbits] at hsum hmem
      generalize Lib.ctz 32 u' = c at *
      have hcx := hmem c List.mem_cons_self
      obtain ⟨hcm, hfree⟩ := (hxb _).1 hcx
      have hmem' : ∀ c ∈ bitsOf (nxt u'), x.testBit c = true := fun c' hc => hmem c' (List.mem_cons_of_mem _ hc)
      rw [sumL_cons] at hsum
      have c0 : W.cell? ⟨bp, 0, none⟩ = some (.pointer (some ⟨pb, 0, none⟩)) := (hB.cell lt1).trans c1
      have c3 : W.cell? ⟨pb, 1, none⟩ = some (.slice (some ⟨lb, 0, none⟩) n cl) := (hB.cell (blk_lt HS.out.hpb)).trans ((blk_cell HS.out.hpb 1).trans rfl)
      have c4 : W.cell? ⟨w.heap.size, 0, none⟩ = some (.int .i64 i) := (blk_cell k0 0).trans rfl
      have rl' := rl.move (hB.block lb (blk_lt rl.choose_spec.1))
      have c5 := rl'.cell hin
      have f5 := rl'.frozen i
      have hi0 : (0 : Int) ≤ (i : Int) := by omega
      have hi1 : (i : Int) < (n : Int) := by omega
      have hit : (i : Int).toNat = i := Int.toNat_natCast i
      have hfo : Tryd.prog.follows .mixedOrders = true := by kernel_rfl
      have Hmem := Lib.hid hmem'
      have Hsum := Lib.hid hsum
      have Hfree := Lib.hid hfree
      have Hx := Lib.hid hx
      have Hxb := Lib.hid hxb
      have Hbits := Lib.hid hbits
      have Hmay := Lib.hid may
      clear hmem hmem' hsum hfree hx hxb hbits may hcx
      gi_wp2
      refine wpIn_region_G (S := fun W' => W' = W.drew) (e := 7) hfo (by kernel_rfl) (fun ⟨_, _, h⟩ => h) ?_
      refine takeG (i := 0) (oi := ⟨some 24, .load 80 (.tmp 3), 80, _, _, none⟩) (.pointer (some ⟨pb, 0, none⟩)) (by kernel_rfl) rfl (by kernel_rfl) (by kernel_rfl) (by kernel_rfl) (fun _ _ _ h => h) (Or.inl ⟨by rfl, ?_⟩) rfl ?_
      · intro W' hS'; subst hS'; go_simp
      simp only [Act.put, List.setIfInBounds_toArray, List.set_cons_zero, List.set_cons_succ]
      refine takeG (i := 1) (oi := ⟨some 25, .nilCheck (.tmp 24), 0, _, _, none⟩) (.pointer (some ⟨pb, 0, none⟩)) (by kernel_rfl) rfl (by kernel_rfl) (by kernel_rfl) (by kernel_rfl) (fun _ _ _ h => h) (Or.inl ⟨by rfl, ?_⟩) rfl ?_
      · intro W' hS'; subst hS'; go_simp
      simp only [Act.put, List.setIfInBounds_toArray, List.set_cons_zero, List.set_cons_succ]
      refine takeG (i := 2) (oi := ⟨some 26, .fieldAddr 85 (.tmp 25) 1, 0, _, _, none⟩) (.pointer (some ⟨pb, 1, none⟩)) (by kernel_rfl) rfl (by kernel_rfl) (by kernel_rfl) (by kernel_rfl) (fun _ _ _ h => h) (Or.inl ⟨by rfl, ?_⟩) rfl ?_
      · intro W' hS'; subst hS'; go_simp
      simp only [Act.put, List.setIfInBounds_toArray, List.set_cons_zero, List.set_cons_succ]
      refine takeG (i := 3) (oi := ⟨some 27, .load 32 (.tmp 26), 32, _, _, none⟩) (.slice (some ⟨lb, 0, none⟩) n cl) (by kernel_rfl) rfl (by kernel_rfl) (by kernel_rfl) (by kernel_rfl) (fun _ _ _ h => h) (Or.inl ⟨by rfl, ?_⟩) rfl ?_
      · intro W' hS'; subst hS'; go_simp
      simp only [Act.put, List.setIfInBounds_toArray, List.set_cons_zero, List.set_cons_succ]
      refine takeG (i := 4) (oi := ⟨some 28, .load 3 (.tmp 6), 3, _, _, none⟩) (.int .i64 i) (by kernel_rfl) rfl (by kernel_rfl) (by kernel_rfl) (by kernel_rfl) (fun _ _ _ h => h) (Or.inl ⟨by rfl, ?_⟩) rfl ?_
      · intro W' hS'; subst hS'; go_simp
      simp only [Act.put, List.setIfInBounds_toArray, List.set_cons_zero, List.set_cons_succ]
      refine takeG (i := 5) (oi := ⟨some 29, .move (.tmp 10), 3, _, _, none⟩) (.int .i64 (c)) (by kernel_rfl) rfl (by kernel_rfl) (by kernel_rfl) (by kernel_rfl) (fun _ _ _ h => h) (Or.inl ⟨by rfl, ?_⟩) rfl ?_
      · intro W' hS'; subst hS'; go_simp
      simp only [Act.put, List.setIfInBounds_toArray, List.set_cons_zero, List.set_cons_succ]
      refine takeG (i := 6) (oi := ⟨some 30, .indexAddr 32 (.tmp 27) (.tmp 28), 0, _, _, none⟩) (.pointer (some ⟨lb, i, none⟩)) (by kernel_rfl) rfl (by kernel_rfl) (by kernel_rfl) (by kernel_rfl) (fun _ _ _ h => h) (Or.inl ⟨by rfl, ?_⟩) rfl ?_
      · intro W' hS'; subst hS'; go_simp
      simp only [Act.put, List.setIfInBounds_toArray, List.set_cons_zero, List.set_cons_succ]
      refine oneG (i := 7) (o := ⟨none, .store 3 (.tmp 30) (.tmp 29), 0, _, _, none⟩) (by kernel_rfl) rfl (by rfl) ?_
      intro K hK
      unfold Oper.wp
      go_simp
      refine hK _ _ (.inl rfl) ?_
      clear hK K
      refine doneG (by kernel_rfl) ?_ _
      obtain ⟨W1, hW1⟩ : ∃ W1, (W.setCell ⟨lb, i, none⟩ (Value.int IntKind.i64 ↑c)).drew = W1 := ⟨_, rfl⟩
      rw [hW1]
      obtain ⟨cur, hcur, hcv⟩ := rl'
      have same1 : ∀ b, b ≠ lb → W1.heap[b]? = W.heap[b]? := fun b hb => by rw [← hW1]; exact Below.heap_setCell _ _ _ _ hb
      have lb1 : W1.heap[lb]? = some (.cells (cur.setIfInBounds i (.int .i64 c)) 3 (0, 0)) := by rw [← hW1]; exact blk_drew (blk_put hcur i _ rfl)
      have sz1 : W1.heap.size = W.heap.size := by rw [← hW1]; simp
      have os1 : W1.os = W.os ∧ W1.tape = W.tape ∧ W1.output = W.output := by rw [← hW1]; exact ⟨rfl, rfl, rfl⟩
      clear hW1
      have hlbl := blk_lt rl.choose_spec.1
      have hs := HS.out
      have n0 : bg ≠ lb := blk_ne hs.hg rl.choose_spec.1 (by decide)
      have n1 : bp ≠ lb := blk_ne hs.hp rl.choose_spec.1 (by decide)
      have n2 : bc ≠ lb := blk_ne hs.hc rl.choose_spec.1 (by decide)
      have n3 : pb ≠ lb := blk_ne hs.hpb rl.choose_spec.1 (by decide)
      have n4 : gn ≠ lb := blk_ne rn.choose_spec.1 rl.choose_spec.1 (by decide)
      have up : ∀ b, b ≠ lb → b < w.heap.size → W1.heap[b]? = w.heap[b]? := fun b h1 h2 => (same1 b h1).trans (hB.block b h2)
      have tab1 : Tab W1 := tab_same hTW (same1 0 (tab_ne hs.hT rl (by omega)).symm)
      have CS1 : CS W1 bg bp bk bc pb gn lb gv (.slice (some ⟨gn, 0, none⟩) n cn) (.slice (some ⟨lb, 0, none⟩) n cl) n k nb (l.set i (c : Int)) :=
        ⟨(up _ n0 lt0).trans hs.hg, (up _ n1 lt1).trans hs.hp, (up _ (Ne.symm hne) lt2).trans hs.hk, (up _ n2 (blk_lt hs.hc)).trans hs.hc, (up _ n3 (blk_lt hs.hpb)).trans hs.hpb,
          fun _ => ⟨cn, cl, rfl, rfl, rn.move (up _ n4 (blk_lt rn.choose_spec.1)), ⟨_, lb1, fun j hj => by
            rw [rd_set _ _ _ _ (by omega), Array.getElem?_setIfInBounds]
            by_cases e : i = j
            · subst e
              have := (Array.getElem?_eq_some_iff.1 (hcv i hj)).1
              simp [this]
            · rw [if_neg e, if_neg e]; exact hcv j hj⟩, hne⟩, tab1⟩
      have q0 : W1.cell? ⟨bp, 0, none⟩ = some (.pointer (some ⟨pb, 0, none⟩)) := (blk_cell CS1.hp 0).trans rfl
      have q1 : W1.cell? ⟨pb, 1, none⟩ = some (.slice (some ⟨lb, 0, none⟩) n cl) := (blk_cell CS1.hpb 1).trans rfl
      have q2 : W1.cell? ⟨bk, 0, none⟩ = some (.int .i64 k) := (blk_cell CS1.hk 0).trans rfl
      have q3 : W1.cell? ⟨bc, 0, none⟩ = some (.func (.func 53) #[] #[.pointer (some ⟨bg, 0, none⟩), .pointer (some ⟨bp, 0, none⟩), .pointer (some ⟨bk, 0, none⟩), .pointer (some ⟨bc, 0, none⟩)]) := (blk_cell CS1.hc 0).trans rfl
      have q4 : W1.cell? ⟨w.heap.size, 0, none⟩ = some (.int .i64 i) := (blk_cell ((same1 _ (by omega)).trans k0) 0).trans rfl
      have q5 : W1.cell? ⟨w.heap.size + 1, 0, none⟩ = some (.int .i64 used) := (blk_cell ((same1 _ (by omega)).trans k1) 0).trans rfl
      have q6 : W1.cell? ⟨w.heap.size + 1 + 1, 0, none⟩ = some (.int .i64 (wrap64 s)) := (blk_cell ((same1 _ (by omega)).trans k2) 0).trans rfl
      have hlt2 : w.heap.size + 2 < W.heap.size := blk_lt k2
      have hcol := HC.out
      have hstep := hcol.step g hin (c := c) (by omega) (by omega) (fun j hj => Hfree.out j ((hub j).2 hj))
      have hfin : ∀ (V : Int) (w2 : World), Below W1.heap.size W1 w2 → wrap64 (s + F c) = V → ∀ (a1 : Act), eachPost W0.heap.size w1.heap.size u' (CntI w x i used F TOT) (fun _ _ => False) W .normal a1 (((w2.setCell ⟨w.heap.size + 1 + 1, 0, none⟩ (.int .i64 V)).setCell ⟨lb, i, none⟩ (.int .i64 (-1))).drew) := by
        intro V w2 hb2 hV a1
        obtain ⟨W4, hW4⟩ : ∃ W4, ((w2.setCell ⟨w.heap.size + 1 + 1, 0, none⟩ (.int .i64 V)).setCell ⟨lb, i, none⟩ (.int .i64 (-1))).drew = W4 := ⟨_, rfl⟩
        have s2 : ∀ b, b ≠ w.heap.size + 1 + 1 → b < W1.heap.size → (w2.setCell ⟨w.heap.size + 1 + 1, 0, none⟩ (.int .i64 V)).heap[b]? = W1.heap[b]? := fun b h1 h2 => (Below.heap_setCell _ _ _ _ h1).trans (hb2.block b h2)
        have same : ∀ b, b < W.heap.size → b ≠ w.heap.size + 2 → W4.heap[b]? = W.heap[b]? := fun b h1 h2 => by
          by_cases hb : b = lb
          · rw [hb, hcur, ← hW4]
            refine blk_drew (blk_put ((s2 lb (by omega) (blk_lt lb1)).trans lb1) i _ ?_)
            have hil := (Array.getElem?_eq_some_iff.1 (hcv i hin)).1
            apply Array.ext_getElem?
            intro j
            rw [Array.getElem?_setIfInBounds, Array.getElem?_setIfInBounds]
            by_cases e : i = j
            · subst e
              have h3 := hcol.not i (Nat.le_refl _) hin
              have h4 := hcv i hin
              rw [h3, Array.getElem?_eq_getElem hil] at h4
              have h5 := Option.some.inj h4
              simp [hil, h5]
            · rw [if_neg e, if_neg e]
          · rw [← hW4]
            exact (Below.heap_setCell _ _ _ _ hb).trans ((s2 b (by omega) (by omega)).trans (same1 b hb))
        have b2' : W4.heap[w.heap.size + 2]? = some (.cells #[.int .i64 V] 2 (0, 0)) := by
          rw [← hW4]
          refine blk_drew ((Below.heap_setCell _ _ _ _ (by show w.heap.size + 2 ≠ lb; omega)).trans (blk_put (cs := #[.int .i64 (wrap64 s)]) ?_ 0 _ rfl))
          exact (hb2.block _ (by omega)).trans ((same1 _ (by omega)).trans k2)
        have hsz4 : W.heap.size ≤ W4.heap.size := by rw [← hW4]; have := hb2.size; simp; omega
        have hbel : Below w.heap.size w W4 := by
          have hS := hB.size
          have hb2s := hb2
          refine ⟨?_, ?_, ?_, Nat.le_trans hS hsz4, fun b hb => (same b (by omega) (by omega)).trans (hB.block b hb)⟩ <;> rw [← hW4]
          · exact hb2.os.trans (os1.1.trans hB.os)
          · exact hb2.tape.trans (os1.2.1.trans hB.tape)
          · exact hb2.output.trans (os1.2.2.trans hB.output)
        rw [hW4]
        have hw1lt : w1.heap.size < W.heap.size := by have := hlr; have := blk_lt hbw; exact this
        refine ⟨⟨hsz4, fun b o hb0 hbo ho => ?_⟩, same _ hw1lt (by omega), s + F c, ⟨?_, Hmem.out⟩, (same _ (by omega) (by omega)).trans k0, (same _ (by omega) (by omega)).trans k1, by rw [hV]; exact b2', hbel, tab_same hTW (same 0 (by omega) (by omega))⟩
        · refine (same b (Array.getElem?_eq_some_iff.1 hbo).1 (fun e => ?_)).trans hbo
          rw [e, k2] at hbo; cases hbo; simp [Obj.isCells] at ho
        · rw [← Hsum.out]; congr 1; omega
      clear c0 c3 c4 c5 f5
      have q7 : W1.frozen? ⟨w.heap.size + 1 + 1, 0, none⟩ = false := blk_frozen ((same1 _ (by omega)).trans k2) 0
      have h2 : bk < W1.heap.size := by rw [sz1]; omega
      have h3 : bc < W1.heap.size := blk_lt CS1.hc
      have h4 : w.heap.size < W1.heap.size := by rw [sz1]; omega
      have h5 : w.heap.size + 1 < W1.heap.size := by rw [sz1]; omega
      have h6 : w.heap.size + 1 + 1 < W1.heap.size := by rw [sz1]; omega
      by_cases huse : c = used
      · have hq : ((c : Int) == (used : Int)) = true := by simp; omega
        rw [if_pos huse] at hstep
        have call := ih (i + 1) (used + 1) (l.set i (c : Int)) W1.drew (by omega) hstep CS1.drew
        obtain ⟨V, hV⟩ : ∃ V, wrap64 (L.cnt nb k d (l.set i (c : Int)) (i + 1) (used + 1)) = V := ⟨_, rfl⟩
        unfold CntP at call
        rw [hV] at call
        gi_wp2
        refine wpIn_region_G (S := fun W' => Below W1.heap.size W1 W') (e := 12) hfo (by kernel_rfl) (fun ⟨_, _, h⟩ => h) ?_
        have hS1 := (Below.refl W1.heap.size W1).drew
        refine takeG (i := 0) (oi := ⟨some 34, .load 2 (.tmp 9), 2, _, _, none⟩) (.int .i64 (wrap64 s)) (by kernel_rfl) rfl (by kernel_rfl) (by kernel_rfl) (by kernel_rfl) (fun _ _ _ h => h) (Or.inl ⟨by rfl, ?_⟩) hS1 ?_
        · intro W' hS'; have e := (hS'.cell h6).trans q6; go_simp
        try simp only [Act.put, List.setIfInBounds_toArray, List.set_cons_zero, List.set_cons_succ]
        refine takeG (i := 1) (oi := ⟨some 35, .load 3 (.tmp 4), 3, _, _, none⟩) (.int .i64 k) (by kernel_rfl) rfl (by kernel_rfl) (by kernel_rfl) (by kernel_rfl) (fun _ _ _ h => h) (Or.inl ⟨by rfl, ?_⟩) hS1 ?_
        · intro W' hS'; have e := (hS'.cell h2).trans q2; go_simp
        try simp only [Act.put, List.setIfInBounds_toArray, List.set_cons_zero, List.set_cons_succ]
        refine takeG (i := 2) (oi := ⟨some 36, .load 3 (.tmp 7), 3, _, _, none⟩) (.int .i64 used) (by kernel_rfl) rfl (by kernel_rfl) (by kernel_rfl) (by kernel_rfl) (fun _ _ _ h => h) (Or.inl ⟨by rfl, ?_⟩) hS1 ?_
        · intro W' hS'; have e := (hS'.cell h5).trans q5; go_simp
        try simp only [Act.put, List.setIfInBounds_toArray, List.set_cons_zero, List.set_cons_succ]
        refine takeG (i := 3) (oi := ⟨some 37, .binOp .sub 3 (.tmp 35) (.tmp 36) 3, 3, _, _, none⟩) (.int .i64 ((k : Int) - used)) (by kernel_rfl) rfl (by kernel_rfl) (by kernel_rfl) (by kernel_rfl) (fun _ _ _ h => h) (Or.inl ⟨by rfl, ?_⟩) hS1 ?_
        · intro W' hS'; go_simp; rw [IntKind.wrap_i64]; omega
        try simp only [Act.put, List.setIfInBounds_toArray, List.set_cons_zero, List.set_cons_succ]
        refine takeG (i := 4) (oi := ⟨some 38, .load 82 (.tmp 5), 82, _, _, none⟩) (.func (.func 53) #[] #[.pointer (some ⟨bg, 0, none⟩), .pointer (some ⟨bp, 0, none⟩), .pointer (some ⟨bk, 0, none⟩), .pointer (some ⟨bc, 0, none⟩)]) (by kernel_rfl) rfl (by kernel_rfl) (by kernel_rfl) (by kernel_rfl) (fun _ _ _ h => h) (Or.inl ⟨by rfl, ?_⟩) hS1 ?_
        · intro W' hS'; have e := (hS'.cell h3).trans q3; go_simp
        try simp only [Act.put, List.setIfInBounds_toArray, List.set_cons_zero, List.set_cons_succ]
        refine takeG (i := 5) (oi := ⟨some 39, .load 3 (.tmp 6), 3, _, _, none⟩) (.int .i64 i) (by kernel_rfl) rfl (by kernel_rfl) (by kernel_rfl) (by kernel_rfl) (fun _ _ _ h => h) (Or.inl ⟨by rfl, ?_⟩) hS1 ?_
        · intro W' hS'; have e := (hS'.cell h4).trans q4; go_simp
        try simp only [Act.put, List.setIfInBounds_toArray, List.set_cons_zero, List.set_cons_succ]
        refine takeG (i := 6) (oi := ⟨some 40, .binOp .add 3 (.tmp 39) (.const (.int .i64 1)) 3, 3, _, _, none⟩) (.int .i64 ((i + 1 : Nat) : Int)) (by kernel_rfl) rfl (by kernel_rfl) (by kernel_rfl) (by kernel_rfl) (fun _ _ _ h => h) (Or.inl ⟨by rfl, ?_⟩) hS1 ?_
        · intro W' hS'; go_simp; rw [IntKind.wrap_i64]; omega
        try simp only [Act.put, List.setIfInBounds_toArray, List.set_cons_zero, List.set_cons_succ]
        refine takeG (i := 7) (oi := ⟨some 41, .load 3 (.tmp 7), 3, _, _, none⟩) (.int .i64 used) (by kernel_rfl) rfl (by kernel_rfl) (by kernel_rfl) (by kernel_rfl) (fun _ _ _ h => h) (Or.inl ⟨by rfl, ?_⟩) hS1 ?_
        · intro W' hS'; have e := (hS'.cell h5).trans q5; go_simp
        try simp only [Act.put, List.setIfInBounds_toArray, List.set_cons_zero, List.set_cons_succ]
        refine takeG (i := 8) (oi := ⟨some 42, .binOp .add 3 (.tmp 41) (.const (.int .i64 1)) 3, 3, _, _, none⟩) (.int .i64 ((used + 1 : Nat) : Int)) (by kernel_rfl) rfl (by kernel_rfl) (by kernel_rfl) (by kernel_rfl) (fun _ _ _ h => h) (Or.inl ⟨by rfl, ?_⟩) hS1 ?_
        · intro W' hS'; go_simp; rw [IntKind.wrap_i64]; omega
        try simp only [Act.put, List.setIfInBounds_toArray, List.set_cons_zero, List.set_cons_succ]
        refine oneG (i := 9) (o := ⟨some 43, .call { callee := .value (.tmp 38), args := #[.tmp 40, .tmp 42], argTypes := #[3, 3] }, 2, _, _, none⟩) (by kernel_rfl) rfl (by rfl) ?_
        intro K hK
        unfold Oper.wp
        go_simp
        refine call.mono ?_
        rintro e w2 ⟨rfl, hb2⟩
        have hS2 : Below W1.heap.size W1 w2 := (Below.refl W1.heap.size W1).drew.trans hb2
        refine hK _ _ (.inr hS2) ?_
        clear hK K
        try simp only [Act.put, List.setIfInBounds_toArray, List.set_cons_zero, List.set_cons_succ]
        refine takeG (i := 10) (oi := ⟨some 44, .binOp .mul 2 (.tmp 37) (.tmp 43) 2, 2, _, _, none⟩) (.int .i64 (IntKind.i64.wrap (((k : Int) - used) * V))) (by kernel_rfl) rfl (by kernel_rfl) (by kernel_rfl) (by kernel_rfl) (fun _ _ _ h => h) (Or.inl ⟨by rfl, ?_⟩) hS2 ?_
        · intro W' hS'; go_simp
        try simp only [Act.put, List.setIfInBounds_toArray, List.set_cons_zero, List.set_cons_succ]
        refine takeG (i := 11) (oi := ⟨some 45, .binOp .add 2 (.tmp 34) (.tmp 44) 2, 2, _, _, none⟩) (.int .i64 (IntKind.i64.wrap (wrap64 s + IntKind.i64.wrap (((k : Int) - used) * V)))) (by kernel_rfl) rfl (by kernel_rfl) (by kernel_rfl) (by kernel_rfl) (fun _ _ _ h => h) (Or.inl ⟨by rfl, ?_⟩) hS2 ?_
        · intro W' hS'; go_simp
        try simp only [Act.put, List.setIfInBounds_toArray, List.set_cons_zero, List.set_cons_succ]
        refine oneG (i := 12) (o := ⟨none, .store 2 (.tmp 9) (.tmp 45), 0, _, _, none⟩) (by kernel_rfl) rfl (by rfl) ?_
        have e2 := (hS2.cell h6).trans q6
        have f2 : w2.frozen? ⟨w.heap.size + 1 + 1, 0, none⟩ = false := (hS2.frozen h6).trans q7
        intro K hK
        unfold Oper.wp
        go_simp
        refine hK _ _ (.inl rfl) ?_
        clear hK K
        refine doneG (by kernel_rfl) ?_ _
        obtain ⟨W3, hW3⟩ : ∃ W3, w2.setCell ⟨w.heap.size + 1 + 1, 0, none⟩ (Value.int IntKind.i64 (IntKind.i64.wrap (wrap64 s + IntKind.i64.wrap (((k : Int) - used) * V)))) = W3 := ⟨_, rfl⟩
        rw [hW3]
        have blk3 : ∀ b, b < W1.heap.size → b ≠ w.heap.size + 1 + 1 → W3.heap[b]? = W1.heap[b]? := fun b h1 h2 => by rw [← hW3]; exact (Below.heap_setCell _ _ _ _ h2).trans (hS2.block b h1)
        have r0 : W3.cell? ⟨bp, 0, none⟩ = some (.pointer (some ⟨pb, 0, none⟩)) := (blk_cell ((blk3 _ (blk_lt CS1.hp) (by omega)).trans CS1.hp) 0).trans rfl
        have r1 : W3.cell? ⟨pb, 1, none⟩ = some (.slice (some ⟨lb, 0, none⟩) n cl) := (blk_cell ((blk3 _ (blk_lt CS1.hpb) (by have := blk_lt hs.hpb; omega)).trans CS1.hpb) 1).trans rfl
        have r2 : W3.cell? ⟨w.heap.size, 0, none⟩ = some (.int .i64 i) := (blk_cell ((blk3 _ h4 (by omega)).trans ((same1 _ (by omega)).trans k0)) 0).trans rfl
        have rb := (blk3 lb (blk_lt lb1) (by omega)).trans lb1
        have r3 : W3.cell? ⟨lb, i, none⟩ = some (.int .i64 c) := (blk_cell rb i).trans (by have := (Array.getElem?_eq_some_iff.1 (hcv i hin)).1; rw [Array.getElem?_setIfInBounds]; simp [this])
        have r4 : W3.frozen? ⟨lb, i, none⟩ = false := blk_frozen rb i
        have hf := hfin (IntKind.i64.wrap (wrap64 s + IntKind.i64.wrap (((k : Int) - used) * V))) w2 hS2 (by
          rw [IntWalk.i64_left, IntWalk.i64_left, ← hV, ← HF.out]
          have e1 : wrap64 ((k : Int) - used) = (k : Int) - used := w64 (by omega) (by omega)
          have e2 := wrap_mul ((k : Int) - used) (L.cnt nb k d (l.set i (c : Int)) (i + 1) (used + 1))
          rw [e1] at e2
          rw [e2, wrap_add]
          show wrap64 (s + (if c = used then _ else _)) = _
          rw [if_pos huse])
        rw [hW3] at hf
        have HF3 := Lib.hid hf
        clear hf hW3 rb blk3 e2 f2 q0 q1 q2 q3 q4 q5 q6 q7
        gi_wp2
        refine wpIn_region_G (S := fun W' => W' = W3.drew) (e := 6) hfo (by kernel_rfl) (fun ⟨_, _, h⟩ => h) ?_
        refine takeG (i := 0) (oi := ⟨some 53, .load 80 (.tmp 3), 80, _, _, none⟩) (.pointer (some ⟨pb, 0, none⟩)) (by kernel_rfl) rfl (by kernel_rfl) (by kernel_rfl) (by kernel_rfl) (fun _ _ _ h => h) (Or.inl ⟨by rfl, ?_⟩) rfl ?_
        · intro W' hS'; subst hS'; go_simp
        simp only [Act.put, List.setIfInBounds_toArray, List.set_cons_zero, List.set_cons_succ]
        refine takeG (i := 1) (oi := ⟨some 54, .nilCheck (.tmp 53), 0, _, _, none⟩) (.pointer (some ⟨pb, 0, none⟩)) (by kernel_rfl) rfl (by kernel_rfl) (by kernel_rfl) (by kernel_rfl) (fun _ _ _ h => h) (Or.inl ⟨by rfl, ?_⟩) rfl ?_
        · intro W' hS'; subst hS'; go_simp
        simp only [Act.put, List.setIfInBounds_toArray, List.set_cons_zero, List.set_cons_succ]
        refine takeG (i := 2) (oi := ⟨some 55, .fieldAddr 85 (.tmp 54) 1, 0, _, _, none⟩) (.pointer (some ⟨pb, 1, none⟩)) (by kernel_rfl) rfl (by kernel_rfl) (by kernel_rfl) (by kernel_rfl) (fun _ _ _ h => h) (Or.inl ⟨by rfl, ?_⟩) rfl ?_
        · intro W' hS'; subst hS'; go_simp
        simp only [Act.put, List.setIfInBounds_toArray, List.set_cons_zero, List.set_cons_succ]
        refine takeG (i := 3) (oi := ⟨some 56, .load 32 (.tmp 55), 32, _, _, none⟩) (.slice (some ⟨lb, 0, none⟩) n cl) (by kernel_rfl) rfl (by kernel_rfl) (by kernel_rfl) (by kernel_rfl) (fun _ _ _ h => h) (Or.inl ⟨by rfl, ?_⟩) rfl ?_
        · intro W' hS'; subst hS'; go_simp
        simp only [Act.put, List.setIfInBounds_toArray, List.set_cons_zero, List.set_cons_succ]
        refine takeG (i := 4) (oi := ⟨some 57, .load 3 (.tmp 6), 3, _, _, none⟩) (.int .i64 i) (by kernel_rfl) rfl (by kernel_rfl) (by kernel_rfl) (by kernel_rfl) (fun _ _ _ h => h) (Or.inl ⟨by rfl, ?_⟩) rfl ?_
        · intro W' hS'; subst hS'; go_simp
        simp only [Act.put, List.setIfInBounds_toArray, List.set_cons_zero, List.set_cons_succ]
        refine takeG (i := 5) (oi := ⟨some 58, .indexAddr 32 (.tmp 56) (.tmp 57), 0, _, _, none⟩) (.pointer (some ⟨lb, i, none⟩)) (by kernel_rfl) rfl (by kernel_rfl) (by kernel_rfl) (by kernel_rfl) (fun _ _ _ h => h) (Or.inl ⟨by rfl, ?_⟩) rfl ?_
        · intro W' hS'; subst hS'; go_simp
        simp only [Act.put, List.setIfInBounds_toArray, List.set_cons_zero, List.set_cons_succ]
        refine oneG (i := 6) (o := ⟨none, .store 3 (.tmp 58) (.const (.int .i64 (-1))), 0, _, _, none⟩) (by kernel_rfl) rfl (by rfl) ?_
        intro K hK
        unfold Oper.wp
        go_simp
        refine hK _ _ (.inl rfl) ?_
        clear hK K
        refine doneG (by kernel_rfl) ?_ _
        gi_wp2
        exact HF3.out _
      · have hq : ((c : Int) == (used : Int)) = false := by simp; omega
        rw [if_neg huse] at hstep
        have call := ih (i + 1) used (l.set i (c : Int)) W1.drew (by omega) hstep CS1.drew
        obtain ⟨V, hV⟩ : ∃ V, wrap64 (L.cnt nb k d (l.set i (c : Int)) (i + 1) used) = V := ⟨_, rfl⟩
        unfold CntP at call
        rw [hV] at call
        gi_wp2
        refine wpIn_region_G (S := fun W' => Below W1.heap.size W1 W') (e := 7) hfo (by kernel_rfl) (fun ⟨_, _, h⟩ => h) ?_
        have hS1 := (Below.refl W1.heap.size W1).drew
        refine takeG (i := 0) (oi := ⟨some 46, .load 2 (.tmp 9), 2, _, _, none⟩) (.int .i64 (wrap64 s)) (by kernel_rfl) rfl (by kernel_rfl) (by kernel_rfl) (by kernel_rfl) (fun _ _ _ h => h) (Or.inl ⟨by rfl, ?_⟩) hS1 ?_
        · intro W' hS'; have e := (hS'.cell h6).trans q6; go_simp
        try simp only [Act.put, List.setIfInBounds_toArray, List.set_cons_zero, List.set_cons_succ]
        refine takeG (i := 1) (oi := ⟨some 47, .load 82 (.tmp 5), 82, _, _, none⟩) (.func (.func 53) #[] #[.pointer (some ⟨bg, 0, none⟩), .pointer (some ⟨bp, 0, none⟩), .pointer (some ⟨bk, 0, none⟩), .pointer (some ⟨bc, 0, none⟩)]) (by kernel_rfl) rfl (by kernel_rfl) (by kernel_rfl) (by kernel_rfl) (fun _ _ _ h => h) (Or.inl ⟨by rfl, ?_⟩) hS1 ?_
        · intro W' hS'; have e := (hS'.cell h3).trans q3; go_simp
        try simp only [Act.put, List.setIfInBounds_toArray, List.set_cons_zero, List.set_cons_succ]
        refine takeG (i := 2) (oi := ⟨some 48, .load 3 (.tmp 6), 3, _, _, none⟩) (.int .i64 i) (by kernel_rfl) rfl (by kernel_rfl) (by kernel_rfl) (by kernel_rfl) (fun _ _ _ h => h) (Or.inl ⟨by rfl, ?_⟩) hS1 ?_
        · intro W' hS'; have e := (hS'.cell h4).trans q4; go_simp
        try simp only [Act.put, List.setIfInBounds_toArray, List.set_cons_zero, List.set_cons_succ]
        refine takeG (i := 3) (oi := ⟨some 49, .binOp .add 3 (.tmp 48) (.const (.int .i64 1)) 3, 3, _, _, none⟩) (.int .i64 ((i + 1 : Nat) : Int)) (by kernel_rfl) rfl (by kernel_rfl) (by kernel_rfl) (by kernel_rfl) (fun _ _ _ h => h) (Or.inl ⟨by rfl, ?_⟩) hS1 ?_
        · intro W' hS'; go_simp; rw [IntKind.wrap_i64]; omega
        try simp only [Act.put, List.setIfInBounds_toArray, List.set_cons_zero, List.set_cons_succ]
        refine takeG (i := 4) (oi := ⟨some 50, .load 3 (.tmp 7), 3, _, _, none⟩) (.int .i64 used) (by kernel_rfl) rfl (by kernel_rfl) (by kernel_rfl) (by kernel_rfl) (fun _ _ _ h => h) (Or.inl ⟨by rfl, ?_⟩) hS1 ?_
        · intro W' hS'; have e := (hS'.cell h5).trans q5; go_simp
        try simp only [Act.put, List.setIfInBounds_toArray, List.set_cons_zero, List.set_cons_succ]
        refine oneG (i := 5) (o := ⟨some 51, .call { callee := .value (.tmp 47), args := #[.tmp 49, .tmp 50], argTypes := #[3, 3] }, 2, _, _, none⟩) (by kernel_rfl) rfl (by rfl) ?_
        intro K hK
        unfold Oper.wp
        go_simp
        refine call.mono ?_
        rintro e w2 ⟨rfl, hb2⟩
        have hS2 : Below W1.heap.size W1 w2 := (Below.refl W1.heap.size W1).drew.trans hb2
        refine hK _ _ (.inr hS2) ?_
        clear hK K
        try simp only [Act.put, List.setIfInBounds_toArray, List.set_cons_zero, List.set_cons_succ]
        refine takeG (i := 6) (oi := ⟨some 52, .binOp .add 2 (.tmp 46) (.tmp 51) 2, 2, _, _, none⟩) (.int .i64 (IntKind.i64.wrap (wrap64 s + V))) (by kernel_rfl) rfl (by kernel_rfl) (by kernel_rfl) (by kernel_rfl) (fun _ _ _ h => h) (Or.inl ⟨by rfl, ?_⟩) hS2 ?_
        · intro W' hS'; go_simp
        try simp only [Act.put, List.setIfInBounds_toArray, List.set_cons_zero, List.set_cons_succ]
        refine oneG (i := 7) (o := ⟨none, .store 2 (.tmp 9) (.tmp 52), 0, _, _, none⟩) (by kernel_rfl) rfl (by rfl) ?_
        have e2 := (hS2.cell h6).trans q6
        have f2 : w2.frozen? ⟨w.heap.size + 1 + 1, 0, none⟩ = false := (hS2.frozen h6).trans q7
        intro K hK
        unfold Oper.wp
        go_simp
        refine hK _ _ (.inl rfl) ?_
        clear hK K
        refine doneG (by kernel_rfl) ?_ _
        obtain ⟨W3, hW3⟩ : ∃ W3, w2.setCell ⟨w.heap.size + 1 + 1, 0, none⟩ (Value.int IntKind.i64 (IntKind.i64.wrap (wrap64 s + V))) = W3 := ⟨_, rfl⟩
        rw [hW3]
        have blk3 : ∀ b, b < W1.heap.size → b ≠ w.heap.size + 1 + 1 → W3.heap[b]? = W1.heap[b]? := fun b h1 h2 => by rw [← hW3]; exact (Below.heap_setCell _ _ _ _ h2).trans (hS2.block b h1)
        have r0 : W3.cell? ⟨bp, 0, none⟩ = some (.pointer (some ⟨pb, 0, none⟩)) := (blk_cell ((blk3 _ (blk_lt CS1.hp) (by omega)).trans CS1.hp) 0).trans rfl
        have r1 : W3.cell? ⟨pb, 1, none⟩ = some (.slice (some ⟨lb, 0, none⟩) n cl) := (blk_cell ((blk3 _ (blk_lt CS1.hpb) (by have := blk_lt hs.hpb; omega)).trans CS1.hpb) 1).trans rfl
        have r2 : W3.cell? ⟨w.heap.size, 0, none⟩ = some (.int .i64 i) := (blk_cell ((blk3 _ h4 (by omega)).trans ((same1 _ (by omega)).trans k0)) 0).trans rfl
        have rb := (blk3 lb (blk_lt lb1) (by omega)).trans lb1
        have r3 : W3.cell? ⟨lb, i, none⟩ = some (.int .i64 c) := (blk_cell rb i).trans (by have := (Array.getElem?_eq_some_iff.1 (hcv i hin)).1; rw [Array.getElem?_setIfInBounds]; simp [this])
        have r4 : W3.frozen? ⟨lb, i, none⟩ = false := blk_frozen rb i
        have hf := hfin (IntKind.i64.wrap (wrap64 s + V)) w2 hS2 (by
          rw [IntWalk.i64_left, ← hV, ← HF.out, wrap_add]
          show wrap64 (s + (if c = used then _ else _)) = _
          rw [if_neg huse])
        rw [hW3] at hf
        have HF3 := Lib.hid hf
        clear hf hW3 rb blk3 e2 f2 q0 q1 q2 q3 q4 q5 q6 q7
        gi_wp2
        refine wpIn_region_G (S := fun W' => W' = W3.drew) (e := 6) hfo (by kernel_rfl) (fun ⟨_, _, h⟩ => h) ?_
        refine takeG (i := 0) (oi := ⟨some 53, .load 80 (.tmp 3), 80, _, _, none⟩) (.pointer (some ⟨pb, 0, none⟩)) (by kernel_rfl) rfl (by kernel_rfl) (by kernel_rfl) (by kernel_rfl) (fun _ _ _ h => h) (Or.inl ⟨by rfl, ?_⟩) rfl ?_
        · intro W' hS'; subst hS'; go_simp
        simp only [Act.put, List.setIfInBounds_toArray, List.set_cons_zero, List.set_cons_succ]
        refine takeG (i := 1) (oi := ⟨some 54, .nilCheck (.tmp 53), 0, _, _, none⟩) (.pointer (some ⟨pb, 0, none⟩)) (by kernel_rfl) rfl (by kernel_rfl) (by kernel_rfl) (by kernel_rfl) (fun _ _ _ h => h) (Or.inl ⟨by rfl, ?_⟩) rfl ?_
        · intro W' hS'; subst hS'; go_simp
        simp only [Act.put, List.setIfInBounds_toArray, List.set_cons_zero, List.set_cons_succ]
        refine takeG (i := 2) (oi := ⟨some 55, .fieldAddr 85 (.tmp 54) 1, 0, _, _, none⟩) (.pointer (some ⟨pb, 1, none⟩)) (by kernel_rfl) rfl (by kernel_rfl) (by kernel_rfl) (by kernel_rfl) (fun _ _ _ h => h) (Or.inl ⟨by rfl, ?_⟩) rfl ?_
        · intro W' hS'; subst hS'; go_simp
        simp only [Act.put, List.setIfInBounds_toArray, List.set_cons_zero, List.set_cons_succ]
        refine takeG (i := 3) (oi := ⟨some 56, .load 32 (.tmp 55), 32, _, _, none⟩) (.slice (some ⟨lb, 0, none⟩) n cl) (by kernel_rfl) rfl (by kernel_rfl) (by kernel_rfl) (by kernel_rfl) (fun _ _ _ h => h) (Or.inl ⟨by rfl, ?_⟩) rfl ?_
        · intro W' hS'; subst hS'; go_simp
        simp only [Act.put, List.setIfInBounds_toArray, List.set_cons_zero, List.set_cons_succ]
        refine takeG (i := 4) (oi := ⟨some 57, .load 3 (.tmp 6), 3, _, _, none⟩) (.int .i64 i) (by kernel_rfl) rfl (by kernel_rfl) (by kernel_rfl) (by kernel_rfl) (fun _ _ _ h => h) (Or.inl ⟨by rfl, ?_⟩) rfl ?_
        · intro W' hS'; subst hS'; go_simp
        simp only [Act.put, List.setIfInBounds_toArray, List.set_cons_zero, List.set_cons_succ]
        refine takeG (i := 5) (oi := ⟨some 58, .indexAddr 32 (.tmp 56) (.tmp 57), 0, _, _, none⟩) (.pointer (some ⟨lb, i, none⟩)) (by kernel_rfl) rfl (by kernel_rfl) (by kernel_rfl) (by kernel_rfl) (fun _ _ _ h => h) (Or.inl ⟨by rfl, ?_⟩) rfl ?_
        · intro W' hS'; subst hS'; go_simp
        simp only [Act.put, List.setIfInBounds_toArray, List.set_cons_zero, List.set_cons_succ]
        refine oneG (i := 6) (o := ⟨none, .store 3 (.tmp 58) (.const (.int .i64 (-1))), 0, _, _, none⟩) (by kernel_rfl) rfl (by rfl) ?_
        intro K hK
        unfold Oper.wp
        go_simp
        refine hK _ _ (.inl rfl) ?_
        clear hK K
        refine doneG (by kernel_rfl) ?_ _
        gi_wp2
        exact HF3.out _
    case done =>
      rintro D W hD ⟨s, ⟨hsum, _⟩, k0, k1, k2, hB, hTW⟩ hK
      have q2 := (blk_cell k2 0).trans rfl
      rw [bitsOf_zero, sumL_nil, Int.add_zero] at hsum
      rw [hsum] at q2
      gi_wp2
      refine ⟨by simp, .inl ⟨_, _, rfl, run_takeDeferred hK, ?_⟩⟩
      refine ⟨.int .i64 (wrap64 TOT), by simp [results, Tryd.results53, go_sem], rfl, ?_⟩
      exact hB.trans (belowK_b (w := W0) (by omega) _ D _ _ hD hK rfl rfl)

end Go.Proofs.YtoblkmbmacimiaaDoor.G
