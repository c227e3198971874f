/- The contract of slices.SortFunc over the nodes of score.Make: by need, the larger first, then by number. -/
import Derived.Shelf.SlSortCmp.NoneTotal
import Derived.Deep.RegionWith
import Derived.Deep.RegionHeld2
import Derived.Sort.OwnSortedInts
import Derived.Test.YtoblkmbmacimiaaGNode
import Derived.Test.YtoblkmbmacimiaaGcmpCompareint
import Derived.Test.YtoblkmbmacimiaaGcmpOrint
namespace Go.Proofs.Ytoblkmbmacimiaa.G
open Go.Shelf Go.Sort Go.RowKit Go.Proofs.YtoblkmbmacimiaaW.PrintWords Go.Proofs.YtoblkmbmacimiaaW.PrintLast Go.Proofs.YtoblkmbmacimiaaW.PrintMore

def sortNode_ren : Ren where
  f := fun
    | 6 => 58
    | 15 => 81
    | 14 => 82
    | 28 => 107
    | 29 => 108
    | 20 => 109
    | 21 => 110
    | 22 => 111
    | 23 => 112
    | 24 => 113
    | 25 => 114
    | 26 => 115
    | 27 => 116
    | 46 => 127
    | 47 => 123
    | 48 => 124
    | 49 => 128
    | 50 => 129
    | 57 => 133
    | n => n
  t := fun
    | 22 => 111
    | 24 => 113
    | 25 => 115
    | 3 => 3
    | 39 => 79
    | 0 => 0
    | 53 => 34
    | 55 => 154
    | 4 => 4
    | 46 => 162
    | 45 => 161
    | 50 => 166
    | 5 => 5
    | 9 => 9
    | 66 => 178
    | 70 => 182
    | 76 => 186
    | 77 => 187
    | n => n
  g := fun n => n
theorem sortNode : SlLaysF0.n6 Try.prog sortNode_ren :=
{ mixed := by kernel_rfl,
  f6 := Exists.intro "slices.SortFunc[[]teamster/score.node,teamster/score.node]" ⟨of_decide_eq_true (by kernel_rfl), Eq.trans Try.func58 (congrArg some (by kernel_rfl))⟩,
  f14 := Exists.intro "slices.pdqsortCmpFunc[teamster/score.node]" ⟨of_decide_eq_true (by kernel_rfl), Eq.trans Try.func82 (congrArg some (by kernel_rfl))⟩,
  f15 := Eq.trans Try.func81 (congrArg some (by kernel_rfl)),
  f20 := Exists.intro "slices.insertionSortCmpFunc[teamster/score.node]" ⟨of_decide_eq_true (by kernel_rfl), Eq.trans Try.func109 (congrArg some (by kernel_rfl))⟩,
  f21 := Exists.intro "slices.heapSortCmpFunc[teamster/score.node]" ⟨of_decide_eq_true (by kernel_rfl), Eq.trans Try.func110 (congrArg some (by kernel_rfl))⟩,
  f22 := Exists.intro "slices.breakPatternsCmpFunc[teamster/score.node]" ⟨of_decide_eq_true (by kernel_rfl), Eq.trans Try.func111 (congrArg some (by kernel_rfl))⟩,
  f23 := Exists.intro "slices.choosePivotCmpFunc[teamster/score.node]" ⟨of_decide_eq_true (by kernel_rfl), Eq.trans Try.func112 (congrArg some (by kernel_rfl))⟩,
  f24 := Exists.intro "slices.reverseRangeCmpFunc[teamster/score.node]" ⟨of_decide_eq_true (by kernel_rfl), Eq.trans Try.func113 (congrArg some (by kernel_rfl))⟩,
  f25 := Exists.intro "slices.partialInsertionSortCmpFunc[teamster/score.node]" ⟨of_decide_eq_true (by kernel_rfl), Eq.trans Try.func114 (congrArg some (by kernel_rfl))⟩,
  f26 := Exists.intro "slices.partitionEqualCmpFunc[teamster/score.node]" ⟨of_decide_eq_true (by kernel_rfl), Eq.trans Try.func115 (congrArg some (by kernel_rfl))⟩,
  f27 := Exists.intro "slices.partitionCmpFunc[teamster/score.node]" ⟨of_decide_eq_true (by kernel_rfl), Eq.trans Try.func116 (congrArg some (by kernel_rfl))⟩,
  f28 := Eq.trans Try.func107 (congrArg some (by kernel_rfl)),
  f29 := Eq.trans Try.func108 (congrArg some (by kernel_rfl)),
  f46 := Exists.intro "slices.siftDownCmpFunc[teamster/score.node]" ⟨of_decide_eq_true (by kernel_rfl), Eq.trans Try.func127 (congrArg some (by kernel_rfl))⟩,
  f47 := Eq.trans Try.func123 (congrArg some (by kernel_rfl)),
  f48 := Eq.trans Try.func124 (congrArg some (by kernel_rfl)),
  f49 := Exists.intro "slices.medianAdjacentCmpFunc[teamster/score.node]" ⟨of_decide_eq_true (by kernel_rfl), Eq.trans Try.func128 (congrArg some (by kernel_rfl))⟩,
  f50 := Exists.intro "slices.medianCmpFunc[teamster/score.node]" ⟨of_decide_eq_true (by kernel_rfl), Eq.trans Try.func129 (congrArg some (by kernel_rfl))⟩,
  f57 := Exists.intro "slices.order2CmpFunc[teamster/score.node]" ⟨of_decide_eq_true (by kernel_rfl), Eq.trans Try.func133 (congrArg some (by kernel_rfl))⟩,
  t0 := Try.underlying0, a0 := Try.isAgg0, z0 := Try.sizeOf0, v0 := Try.zeroValue0,
  t3 := Try.underlying3, a3 := Try.isAgg3, z3 := Try.sizeOf3, v3 := Try.zeroValue3,
  t4 := Try.underlying4, a4 := Try.isAgg4, z4 := Try.sizeOf4, v4 := Try.zeroValue4,
  t5 := Try.underlying5, a5 := Try.isAgg5, z5 := Try.sizeOf5, v5 := Try.zeroValue5,
  t9 := Try.underlying9, a9 := Try.isAgg9, z9 := Try.sizeOf9, v9 := Try.zeroValue9,
  t22 := Try.underlying111, a22 := Try.isAgg111, z22 := Try.sizeOf111, v22 := Try.zeroValue111,
  t25 := Try.underlying115, a25 := Try.isAgg115, z25 := Try.sizeOf115, v25 := Try.zeroValue115,
  t39 := Try.underlying79, a39 := Try.isAgg79, z39 := Try.sizeOf79, v39 := Try.zeroValue79,
  t45 := Try.underlying161, a45 := Try.isAgg161, z45 := Try.sizeOf161, v45 := Try.zeroValue161,
  t46 := Try.underlying162, a46 := Try.isAgg162, z46 := Try.sizeOf162, v46 := Try.zeroValue162,
  t50 := Try.underlying166, a50 := Try.isAgg166, z50 := Try.sizeOf166, v50 := Try.zeroValue166,
  t53 := Try.underlying34, a53 := Try.isAgg34, z53 := Try.sizeOf34, v53 := Try.zeroValue34,
  t55 := Try.underlying154, a55 := Try.isAgg154, z55 := Try.sizeOf154, v55 := Try.zeroValue154,
  t66 := Try.underlying178, a66 := Try.isAgg178, z66 := Try.sizeOf178, v66 := Try.zeroValue178,
  t70 := Try.underlying182, a70 := Try.isAgg182, z70 := Try.sizeOf182, v70 := Try.zeroValue182,
  t76 := Try.underlying186, a76 := Try.isAgg186, z76 := Try.sizeOf186, v76 := Try.zeroValue186,
  t77 := Try.underlying187, a77 := Try.isAgg187, z77 := Try.sizeOf187, v77 := Try.zeroValue187 } 

/-! ### The order -/
instance : Inhabited S113 := ⟨z113⟩
def cmpI (x y : Int) : Int := if x < y then -1 else if x > y then 1 else 0
def orI (p q : Int) : Int := if p = 0 then q else p
def nodeCmp (x y : S113) : Int := orI (cmpI y.f1 x.f1) (cmpI x.f0 y.f0)
def encNode (x : S113) : List Value := [.int .i64 x.f0, .int .i64 x.f1]

theorem compare_calls (x y : Int) (W : World) : Calls Try.prog 84 #[.int .i64 x, .int .i64 y] W fun e w' => e = .returned (.int .i64 (cmpI x y)) ∧ ∃ q, w' = W.drewN q := by
  refine (cmp_Compare_int.calls x y (cmpI x y) W ?_).mono fun e w' ⟨h1, h2⟩ => ⟨h1, h2.out⟩
  unfold cmp_Compare_int.f cmp_isNaN_int.f cmpI
  simp only [Option.bind_some]
  by_cases h1 : x < y
  · simp [h1]
  · by_cases h2 : x > y <;> simp [h1, h2]
theorem or_is (a b : Int) : ∃ k, cmp_Or_int.f k [a, b] = some (if a = 0 then b else a) := by
  refine ⟨5, ?_⟩
  have r0 : YtoblkmbmacimiaaW.PrintWords.rd [a, b] 0 = a := rfl
  have r1 : YtoblkmbmacimiaaW.PrintWords.rd [a, b] 1 = b := rfl
  by_cases ha : a = 0
  · subst ha
    by_cases hb : b = 0
    · subst hb; simp [cmp_Or_int.f, cmp_Or_int.l0, r0, r1, wrap64]
    · simp [cmp_Or_int.f, cmp_Or_int.l0, r0, r1, wrap64, hb]
  · simp [cmp_Or_int.f, cmp_Or_int.l0, r0, ha]

theorem or_calls (p q : Int) (W' : World) : Calls Try.prog 83 #[.slice (some ⟨W'.heap.size, 0, none⟩) 2 2] (W'.alloc (.cells #[.int .i64 p, .int .i64 q] 3)) fun e w' => e = .returned (.int .i64 (orI p q)) ∧ ∃ n, w' = (W'.alloc (.cells #[.int .i64 p, .int .i64 q] 3)).drewN n := by
  obtain ⟨k, hor⟩ := or_is p q
  have h := own_lit W' W'.heap.size 3 .i64 [p, q] (Nat.le_refl _) (by simp)
  obtain ⟨A, c, e1, hr⟩ := own_reads h
  cases e1
  refine (cmp_Or_int.calls k (some ⟨W'.heap.size, 0, none⟩) 2 [p, q] _ (W'.alloc (.cells #[.int .i64 p, .int .i64 q] 3)) (Kd.C_of_reads (d := (0 : Int)) (h1 := fun _ => rfl) hr) (Nat.le_refl _) hor).mono fun e w' ⟨h1, h2⟩ => ⟨h1, h2.out⟩

theorem drewN_gr (w : World) (os : Array Obj) (n : Nat) : (grow w os).drewN n = grow (w.drewN n) os := by
  unfold grow World.drewN; rfl

set_option maxHeartbeats 1000000 in
set_option maxRecDepth 100000 in
theorem order_calls (x y : S113) (W : World) : Calls Try.prog 59 #[.agg #[.int .i64 x.f0, .int .i64 x.f1], .agg #[.int .i64 y.f0, .int .i64 y.f1]] W fun e w' => e = .returned (.int .i64 (nodeCmp x y)) ∧ ∃ q os', w' = grow (W.drewN q) os' := by
  obtain ⟨x0, x1⟩ := x
  obtain ⟨y0, y1⟩ := y
  go_enter Try.func59, Try.ntmps59
  go_wp2
  obtain ⟨W0, hW0⟩ : ∃ W0, (W.alloc (Obj.cells #[Value.int IntKind.i64 x0, Value.int IntKind.i64 x1] 113)).alloc (Obj.cells #[Value.int IntKind.i64 y0, Value.int IntKind.i64 y1] 113) = W0 := ⟨_, rfl⟩
  rw [hW0]
  have k0 : W0.heap[W.heap.size]? = some (.cells #[.int .i64 x0, .int .i64 x1] 113 (0, 0)) := by rw [← hW0]; exact blk_alloc (blk_new _ _) _
  have k1 : W0.heap[W.heap.size + 1]? = some (.cells #[.int .i64 y0, .int .i64 y1] 113 (0, 0)) := by
    rw [← hW0]; have := blk_new (W.alloc (Obj.cells #[Value.int IntKind.i64 x0, Value.int IntKind.i64 x1] 113)) (Obj.cells #[Value.int IntKind.i64 y0, Value.int IntKind.i64 y1] 113); rwa [World.size_alloc] at this
  have HW := Aside0.mk (show W0 = grow W #[Obj.cells #[Value.int IntKind.i64 x0, Value.int IntKind.i64 x1] 113, Obj.cells #[Value.int IntKind.i64 y0, Value.int IntKind.i64 y1] 113] by rw [← hW0, alloc_eq_grow, alloc_eq_grow, grow_grow]; rfl)
  clear hW0
  have c0 : W0.cell? ⟨W.heap.size, 0, none⟩ = some (.int .i64 x0) := (blk_cell k0 0).trans rfl
  have c1 : W0.cell? ⟨W.heap.size, 1, none⟩ = some (.int .i64 x1) := (blk_cell k0 1).trans rfl
  have c2 : W0.cell? ⟨W.heap.size + 1, 0, none⟩ = some (.int .i64 y0) := (blk_cell k1 0).trans rfl
  have c3 : W0.cell? ⟨W.heap.size + 1, 1, none⟩ = some (.int .i64 y1) := (blk_cell k1 1).trans rfl
  clear k0 k1
  generalize W.heap.size = n0 at *
  go_region_held2 (fun W' : World => W'.cell? ⟨n0, 0, none⟩ = some (.int .i64 x0) ∧ W'.cell? ⟨n0, 1, none⟩ = some (.int .i64 x1) ∧ W'.cell? ⟨n0 + 1, 0, none⟩ = some (.int .i64 y0) ∧ W'.cell? ⟨n0 + 1, 1, none⟩ = some (.int .i64 y1)) (go_keep) (first
    | (go_at_call 84; refine (compare_calls _ _ _).mono ?_; rintro e w' ⟨rfl, ⟨n1, rfl⟩⟩)
    | (go_at_call 83; refine (or_calls _ _ _).mono ?_; rintro e w' ⟨rfl, ⟨n3, rfl⟩⟩))
  all_goals go_wp2
  all_goals go_ret
  all_goals refine ⟨rfl, ?_⟩
  all_goals rw [HW.out, drewN_gr, alloc_eq_grow, grow_grow, drewN_gr, World.drewN_drewN]
  all_goals exact ⟨_, _, rfl⟩

/-! ### The sort -/
theorem cmpI_lt (x y : Int) : cmpI x y < 0 ↔ x < y := by unfold cmpI; split <;> (try split) <;> omega
theorem cmpI_eq (x y : Int) : cmpI x y = 0 ↔ x = y := by unfold cmpI; split <;> (try split) <;> omega
/-- One goes before another. -/
def Ahead (x y : S113) : Prop := y.f1 < x.f1 ∨ x.f1 = y.f1 ∧ x.f0 < y.f0
theorem lt_node (x y : S113) : ltOf nodeCmp x y = true ↔ Ahead x y := by
  unfold ltOf nodeCmp orI Ahead
  rw [decide_eq_true_iff]
  by_cases h : cmpI y.f1 x.f1 = 0
  · rw [if_pos h, cmpI_lt]
    have := (cmpI_eq _ _).1 h
    omega
  · rw [if_neg h, cmpI_lt]
    have : y.f1 ≠ x.f1 := fun e => h ((cmpI_eq y.f1 x.f1).2 e)
    omega
theorem lt_node_false (x y : S113) : ltOf nodeCmp x y = false ↔ ¬ Ahead x y := by rw [← lt_node, Bool.not_eq_true]
theorem swoNode : SWO (ltOf nodeCmp) where
  irrefl x := by rw [lt_node_false]; unfold Ahead; omega
  trans x y z h1 h2 := by rw [lt_node] at *; unfold Ahead at *; omega
  ntrans x y z h1 h2 := by rw [lt_node_false] at *; unfold Ahead at *; omega
theorem totNode (x y : S113) (h1 : ltOf nodeCmp x y = false) (h2 : ltOf nodeCmp y x = false) : x = y := by
  rw [lt_node_false] at *
  unfold Ahead at *
  obtain ⟨a, b⟩ := x
  obtain ⟨c, d⟩ := y
  simp only at *
  have : a = c := by omega
  have : b = d := by omega
  subst_vars; rfl

def slices_SortFunc_node.f (l : List S113) : Option (List S113) := if l.length < 4611686018427387904 then some (l.mergeSort fun x y => !(ltOf nodeCmp) y x) else none

theorem take_put (cur : Array Value) (o : Nat) (F : Array Value) (h : o + F.size ≤ cur.size) : ((putCells id o F cur).toList.drop o).take F.size = F.toList := by
  apply List.ext_getElem?
  intro i
  by_cases hi : i < F.size
  · rw [List.getElem?_take_of_lt hi, List.getElem?_drop, Array.getElem?_toList]
    have h2 : o + i < cur.size := by omega
    simp [putCells, hi, h2]
  · rw [List.getElem?_take_eq_none (by omega), List.getElem?_eq_none (by simp; omega)]

theorem flat_at (l : List S113) (j : Nat) (p : S113) (h : l[j]? = some p) : ((flatK encNode 2 l.toArray).toList.drop (j * 2)).take 2 = encNode p := by
  have hj : j < l.length := (List.getElem?_eq_some_iff.1 h).1
  have hp : l[j] = p := (List.getElem?_eq_some_iff.1 h).2
  have e : ∀ c, c < 2 → (flatK encNode 2 l.toArray).toList[j * 2 + c]? = (encNode p)[c]? := fun c hc => by
    have hb : j * 2 + c < l.toArray.size * 2 := by simp; omega
    have h1 : (j * 2 + c) / 2 = j := by omega
    have h2 : (j * 2 + c) % 2 = c := by omega
    have h3 : l.toArray[j]! = p := by simp [hj, hp]
    unfold flatK
    rw [Array.getElem?_toList, Array.getElem?_map, Array.getElem?_range, if_pos hb, Option.map_some, h1, h2, h3]
    have : c = 0 ∨ c = 1 := by omega
    rcases this with rfl | rfl <;> rfl
  apply List.ext_getElem?
  intro c
  by_cases hc : c < 2
  · rw [List.getElem?_take_of_lt hc, List.getElem?_drop, e c hc]
  · rw [List.getElem?_take_eq_none (by omega), List.getElem?_eq_none (by simp [encNode]; omega)]

theorem slices_SortFunc_node.calls (P0_ : Nat → Prop) (u9000_ : Value) (l0 : List S113) (r : List S113) (w0 w : World) (hB : Below w0.heap.size w0 w) (ho0 : Kd.Q k113 113 w w0.heap.size P0_ u9000_ l0) (h : slices_SortFunc_node.f l0 = some r) :
    Calls Try.prog 58 #[u9000_, .func (.func 59) #[] #[]] w fun e w' => e = .returned (.tuple #[]) ∧ Kd.Q k113 113 w' w0.heap.size (fun k_ => (P0_ k_ ∨ w.heap.size ≤ k_)) u9000_ r ∧ Below w0.heap.size w0 w' ∧ Kept w w' (fun k_ => P0_ k_) := by
  unfold slices_SortFunc_node.f at h
  split at h
  case isFalse => cases h
  case isTrue hsz =>
  injection h with h
  subst h
  by_cases hz : l0 = []
  · subst hz
    obtain ⟨A, c, hv⟩ : ∃ A c, u9000_ = .slice A 0 c := by
      obtain ⟨_, inner, hq, _⟩ := ho0
      rcases hq.2 with ⟨_, A, hv, _⟩ | ⟨g, off, cap, cur, hv, _⟩
      · exact ⟨A, 0, hv⟩
      · exact ⟨_, cap, hv⟩
    rw [hv]
    refine (AnyF.slices_SortFunc_none sortNode A c (.func (.func 59) #[] #[]) w).mono ?_
    rintro e w' ⟨rfl, rfl⟩
    refine ⟨rfl, ?_, hB, Kept.refl _ _⟩
    rw [← hv]
    simpa using Kd.Q_mono ho0 (fun k hk => Or.inl hk)
  · have hpos : 0 < l0.length := List.length_pos_iff.2 hz
    have hO := ho0
    obtain ⟨hok, inner, hq, hr⟩ := ho0
    rcases hq.2 with ⟨h0, _⟩ | ⟨g, off, cap, cur, hv, hbase, hcur, hn, hcap, hsize, htake⟩
    · omega
    subst hv
    have hP : P0_ g := hok g (by simp [Value.ownBlock])
    have hg : g < w.heap.size := (Array.getElem?_eq_some_iff.1 hcur).1
    have hsz2 : k113.sz = 2 := rfl
    have hH : HoldsK encNode 2 w g (off * 2) l0.toArray := by
      intro j hj
      rw [size_flatK] at hj
      have hj' : j < l0.length * 2 := by simpa using hj
      have hi : j / 2 < l0.length := by omega
      obtain ⟨c, hcl, hM, hcc, hfz⟩ := Kd.Q_elem hO z113 ((j / 2 : Nat) : Int) (by omega) (by omega)
      have hx := k113_openM hM
      have hfz' : ∀ q, w.frozen? ⟨g, off * 2 + j / 2 * 2 + q, none⟩ = false := fun q => hfz q
      have hcc' : ∀ q u, c[q]? = some u → w.cell? ⟨g, off * 2 + j / 2 * 2 + q, none⟩ = some u := fun q u hu => hcc q u hu
      have ej : off * 2 + j / 2 * 2 + j % 2 = off * 2 + j := by omega
      have hget : l0.getD (j / 2) z113 = l0.toArray[j / 2]! := by simp [hi]
      refine ⟨?_, by have := hfz' (j % 2); rwa [ej] at this⟩
      rw [get_flatK _ _ _ _ hj]
      have := hcc' (j % 2) ((encNode l0.toArray[j / 2]!)[j % 2]!) (by
        rw [hx, Int.toNat_natCast, hget]
        have : j % 2 = 0 ∨ j % 2 = 1 := by omega
        rcases this with e | e <;> rw [e] <;> rfl)
      rwa [ej] at this
    have eg : ∀ args w, (callFunc 59 args).run Try.prog w = .ok (.enter 59 args) w := enters_of Try.func59 (by kernel_rfl) rfl
    have hcmp : CmpLays Try.prog 59 #[] encNode 2 nodeCmp g (off * 2) l0.toArray.size w := fun _ _ _ _ x y => order_calls x y _
    have hcon := AnyQ.slices_SortFunc_total sortNode 2 Try.isAgg113 Try.sizeOf113 encNode (fun _ => rfl) (fun x v hv => by simp [encNode] at hv; rcases hv with rfl | rfl <;> rfl) nodeCmp swoNode 59 #[] g (off * 2) cap l0.toArray w eg hcmp hH hg (by simpa using hsz) totNode
    change Calls Try.prog 58 _ _ _ at hcon
    have hl : l0.toArray.size = l0.length := by simp
    rw [hl] at hcon
    refine hcon.mono ?_
    rintro e w' ⟨rfl, n, os, rfl⟩
    obtain ⟨t, ht⟩ : ∃ t, t = (l0.mergeSort fun x y => !(ltOf nodeCmp) y x) := ⟨_, rfl⟩
    have hlen : t.length = l0.length := by rw [ht]; exact List.length_mergeSort _
    have hlist : l0.toArray.toList = l0 := by simp
    rw [hlist, ← ht]
    have hfs : (flatK encNode 2 t.toArray).size = l0.length * 2 := by simp [hlen]
    have hheap : (sortWorldK encNode 2 w g (off * 2) n t.toArray os).heap[g]? = some (.cells (putCells id (off * 2) (flatK encNode 2 t.toArray) cur) 113 (0, 0)) := by
      unfold sortWorldK putRowK
      rw [heap_grow_old _ _ (by simpa using hg)]
      simp [putRow, mapBlock, Sort.ahead, Array.getElem?_modify, hcur, onCells]
    have hgr : w.grownBy (sortWorldK encNode 2 w g (off * 2) n t.toArray os) (some g) := by
      refine ⟨rfl, rfl, rfl, by simp [sortWorldK, putRowK], fun k hk hne => ?_⟩
      unfold sortWorldK putRowK
      rw [heap_grow_old _ _ (by simpa using hk)]
      have : g ≠ k := fun e => hne (by rw [e])
      simp [putRow, mapBlock, Sort.ahead, Array.getElem?_modify, this]
    refine ⟨rfl, ?_, hB.grown hgr hB.size (fun k hk => by cases hk; exact hbase), hgr.size, fun i hi hne => hgr.block i hi (fun e => hne (by cases e; exact hP))⟩
    have hsize2 : cur.size = (off + cap) * 2 := hsize
    refine ⟨fun k hk => by simp [Value.ownBlock] at hk; subst hk; exact .inl hP, (flatK encNode 2 t.toArray).toList, ⟨by simp; rfl, .inr ⟨g, off, cap, _, by rw [hlen, hsz2], hbase, hheap, by rw [hlen]; exact hn, hcap, by simp [putCells, hsize, hsz2], ?_⟩⟩, ?_⟩
    · have := take_put cur (off * 2) (flatK encNode 2 t.toArray) (by rw [hfs, hsize2]; omega)
      rw [hfs] at this
      rw [hlen, hsz2]; exact this
    · refine ⟨by simp [hsz2], fun j p hj => ?_⟩
      rw [hsz2, flat_at t j p hj]
      exact k113_mkM _ _ _ _

end Go.Proofs.Ytoblkmbmacimiaa.G
