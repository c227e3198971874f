/- A region that draws its order: each load is taken first, also where the region's last operation stores into what was loaded; in a round of a range over a function as elsewhere. A region in the order of the text, walked in a round as elsewhere; a row of one's own between two rounds. -/
import Derived.OrdersHeld
import Derived.OrdersIn
import Derived.TacticsIn
import Derived.RangeFuncCalls
import Derived.Test.YtoblkmbmacimiaaDoorEach1
import Derived.Test.YtoblkmbmacimiaaDoorGZero

namespace Go.Proofs.YtoblkmbmacimiaaDoor.B
open Go

section
variable {P : Program} {ops : Array Oper} {Q : Exit → Act → World → Prop} {md : Region.Mode} {S : World → Prop}

/-- Whatever order is picked from here on, and S holds behind every operation but e. -/
def wpAnyG (P : Program) (md : Region.Mode) (ops : Array Oper) (Q : Exit → Act → World → Prop) (S : World → Prop) (e : Nat) : Nat → Array Bool → Act → World → Prop
  | 0, listed, a, w => Region.ready md ops listed = [] ∧ Q .normal a w
  | fuel + 1, listed, a, w =>
    (Region.ready md ops listed = [] → Q .normal a w) ∧
    ∀ i ∈ Region.ready md ops listed, wpOp P ops Q i (fun a' w' => (i = e ∨ S w') ∧ wpAnyG P md ops Q S e fuel (listed.setIfInBounds i true) a' w') a w

theorem wpAny_of_G {e : Nat} : ∀ (fuel : Nat) (listed : Array Bool) (a : Act) (w : World), wpAnyG P md ops Q S e fuel listed a w → wpAny P md ops Q fuel listed a w
  | 0, _, _, _, h => h
  | fuel + 1, _, _, _, h => ⟨h.1, fun i hi => wpOp_mono (fun a' w' h' => wpAny_of_G fuel _ a' w' h'.2) (h.2 i hi)⟩

/-- e waits for i by an edge of its own. -/
def waits (md : Region.Mode) (ops : Array Oper) (e i : Nat) : Bool := match ops[e]? with | some o => o.after.any (fun x => Region.binds md x && x.on == i) | none => true
theorem waits_spec {e i : Nat} {listed : Array Bool} (h : waits md ops e i = true) (hi : i ∈ Region.ready md ops listed) : e ∉ Region.ready md ops listed := by
  intro he
  obtain ⟨h0, _⟩ := mem_ready.1 hi
  obtain ⟨_, o, ho, hall⟩ := mem_ready.1 he
  unfold waits at h
  rw [ho] at h
  simp only [Array.any_eq_true] at h
  obtain ⟨k, hk, hx⟩ := h
  simp only [Bool.and_eq_true, beq_iff_eq] at hx
  have := hall _ (Array.getElem_mem hk) hx.1
  rw [hx.2] at this
  rcases Nat.lt_or_ge i listed.size with h' | h'
  · simp [h'] at h0 this; rw [h0] at this; cases this
  · simp [Array.getElem?_eq_none h'] at this

theorem wpAnyG_first {i e : Nat} {oi : Oper} {v : Value} (hw : waits md ops e i = true) (hi : ops[i]? = some oi) (hsel : ∀ (j : Nat) (o : Oper) cs b, ops[j]? = some o → o.op ≠ .select cs b)
    (hQ : ∀ c a w, Q (.panic c) (a.put oi.dst v) w → Q (.panic c) a w) :
    ∀ (fuel : Nat) (listed : Array Bool) (a : Act) (w : World),
      (∀ j oj, ops[j]? = some oj → j ≠ i → listed.getD j true = false → (∀ e ∈ oj.after, Region.binds md e = true → e.on ≠ i) → oi.apart ops oj = true) →
      i ∈ Region.ready md ops listed → YieldsIf P ops S oi v a → S w →
      wpAnyG P md ops Q S e fuel (listed.setIfInBounds i true) (a.put oi.dst v) w → wpAnyG P md ops Q S e (fuel + 1) listed a w := by
  intro fuel
  induction fuel with
  | zero =>
    intro listed a w _ hr hy hS H
    refine ⟨fun h => (by rw [h] at hr; cases hr), fun j hj => ?_⟩
    by_cases hji : j = i
    · subst hji; exact hy.wpOp hi hS ⟨.inr hS, H⟩
    · have := ready_mono hj hji
      rw [H.1] at this
      cases this
  | succ fuel ih =>
    intro listed a w hfree hr hy hS H
    refine ⟨fun h => (by rw [h] at hr; cases hr), fun j hj => ?_⟩
    by_cases hji : j = i
    · subst hji; exact hy.wpOp hi hS ⟨.inr hS, H⟩
    · have hje : j ≠ e := fun he => waits_spec hw hr (he ▸ hj)
      have h1 := H.2 j (ready_mono hj hji)
      obtain ⟨hjun, oj, hoj, hall⟩ := mem_ready.1 hj
      have hnot : ∀ e ∈ oj.after, Region.binds md e = true → e.on ≠ i := fun e he hb heq => by
        have h1 := hall e he hb
        have h0 := (mem_ready.1 hr).1
        rw [heq] at h1
        rcases Nat.lt_or_ge i listed.size with h' | h'
        · simp [h'] at h0 h1; rw [h0] at h1; cases h1
        · simp [Array.getElem?_eq_none h'] at h1
      have h2 := wpOp_putIf hoj (hfree j oj hoj hji hjun hnot) (fun cs b => hsel i oi cs b hi) (fun cs b => hsel j oj cs b hoj) hQ hy h1
      have hfree' : ∀ k ok, ops[k]? = some ok → k ≠ i → (listed.setIfInBounds j true).getD k true = false →
          (∀ e ∈ ok.after, Region.binds md e = true → e.on ≠ i) → oi.apart ops ok = true := fun k ok hk hki hun hno => by
        refine hfree k ok hk hki ?_ hno
        by_cases hjk : j = k
        · subst hjk; exact hjun
        · rw [getD_set_ne true hjk] at hun; exact hun
      refine wpOp_mono (fun a' w' h3 => ⟨.inr (h3.2.1.resolve_left hje), ih (listed.setIfInBounds j true) a' w' hfree' (ready_mono hr (Ne.symm hji)) h3.1 (h3.2.1.resolve_left hje) ?_⟩) h2
      rw [Array.setIfInBounds_comm _ _ hji]
      exact h3.2.2

theorem takeG {i e : Nat} {oi : Oper} (v : Value) {fuel : Nat} {listed : Array Bool} {a : Act} {w : World} (hw : waits md ops e i = true) (hi : ops[i]? = some oi)
    (hs : Region.noSelect ops = true) (hf : Region.free md ops listed i = true) (hr : (Region.ready md ops listed).contains i = true)
    (hQ : ∀ c a w, Q (.panic c) (a.put oi.dst v) w → Q (.panic c) a w) (hy : YieldsIf P ops S oi v a) (hS : S w)
    (h : wpAnyG P md ops Q S e fuel (listed.setIfInBounds i true) (a.put oi.dst v) w) : wpAnyG P md ops Q S e (fuel + 1) listed a w :=
  wpAnyG_first hw hi (Region.noSelect_spec hs) hQ fuel listed a w (Region.free_spec hi hf) (by simpa using hr) hy hS h

/-- One alone may come up. -/
theorem oneG {i e : Nat} {o : Oper} {fuel : Nat} {listed : Array Bool} {a : Act} {w : World} (hr : Region.ready md ops listed = [i]) (ho : ops[i]? = some o) (hw : Region.wanted o (yielded ops a.tmps) = true)
    (h : ∀ K : Act → World → Prop, (∀ a' w', (i = e ∨ S w') → wpAnyG P md ops Q S e fuel (listed.setIfInBounds i true) a' w' → K a' w') → o.wp P a w K Q) : wpAnyG P md ops Q S e (fuel + 1) listed a w :=
  ⟨fun h0 => (by rw [h0] at hr; cases hr), fun j hj => by
    rw [hr] at hj
    obtain rfl := List.mem_singleton.1 hj
    unfold wpOp
    rw [ho]
    simp only [hw, if_true]
    exact .inl (h _ fun _ _ h1 h2 => ⟨h1, h2⟩)⟩

theorem doneG {e : Nat} {listed : Array Bool} {a : Act} {w : World} (hr : Region.ready md ops listed = []) (h : Q .normal a w) : ∀ fuel, wpAnyG P md ops Q S e fuel listed a w
  | 0 => ⟨hr, h⟩
  | _ + 1 => ⟨fun _ => h, by rw [hr]; simp⟩

/-! ### In a round -/
def noDefer (ops : Array Oper) : Bool := ops.all fun o => match o.op with | .defer _ => false | _ => true
theorem noDefer_spec (h : noDefer ops = true) {i : Nat} {o : Oper} (ho : ops[i]? = some o) (c : _) : o.op ≠ .defer c := by
  intro heq
  have := Array.all_eq_true_iff_forall_mem.1 h o (Array.mem_of_getElem? ho)
  simp [heq] at this

theorem opIn_of_wp {l n : Nat} {o : Oper} {a : Act} {w : World} {K : Act → World → Prop} (hnd : ∀ c, o.op ≠ .defer c) (h : Oper.wp P o a w K Q) : Oper.wpIn (Fence.wide.inRound l) n P o a w K Q := by
  refine ⟨fun f _ => trivial, ?_⟩
  rw [Fence.inRound_round, Oper.semAt_some l _ _ hnd]
  unfold Oper.wp at h
  generalize (execOp a.eval o).run P w = r at *
  have hd : (Fence.wide.inRound l).depth.isSome = true → 1 ≤ n := fun h => by simp [Fence.wide] at h
  cases r with
  | ok x w' =>
    cases x <;> simp only [Oper.upon, Oper.uponIn] at h ⊢ <;> first | exact h | exact ⟨hd, CallsIn.inRound l (callsIn_wide.2 h)⟩ | (refine ⟨hd, fun c cs _ => ?_⟩; obtain ⟨v, w2, r, s⟩ := h c cs; exact ⟨v, w2, r, stepsIn_wide.2 s⟩)
  | halt x w' => cases x <;> simp only [Oper.upon, Oper.uponIn] at h ⊢ <;> exact h

theorem wpAnyIn_of_wpAny {l n : Nat} (hnd : noDefer ops = true) (hL : ¬ LetsOut Q) : ∀ (fuel : Nat) (listed : Array Bool) (a : Act) (w : World), wpAny P md ops Q fuel listed a w → wpAnyIn (Fence.wide.inRound l) n P md ops Q fuel listed a w
  | 0, _, _, _, h => h
  | fuel + 1, listed, a, w, h => ⟨h.1, fun i hi => by
    have h2 := h.2 i hi
    unfold wpOp at h2
    unfold wpOpIn
    cases ho : ops[i]? with
    | none => rw [ho] at h2; exact wpAnyIn_of_wpAny hnd hL fuel _ _ _ h2
    | some o =>
      rw [ho] at h2
      simp only at h2 ⊢
      split
      · rename_i hw
      
        simp only [hw, if_true] at h2
        exact opIn_of_wp (noDefer_spec hnd ho) (Oper.wp_mono (fun a' w' h' => wpAnyIn_of_wpAny hnd hL fuel _ a' w' h') (h2.resolve_right fun hh => hL hh.2))
      · rename_i hw
        simp only [hw] at h2
        exact ⟨fun f _ => trivial, wpAnyIn_of_wpAny hnd hL fuel _ _ _ h2⟩⟩

/-- The beginning, in a round. -/
theorem wpIn_region_G {l n id e : Nat} {a : Act} {w : World} (hm : P.follows .mixedOrders = true) (hnd : noDefer ops = true) (hL : ¬ LetsOut Q)
    (h : wpAnyG P .any ops Q S e ops.size (Array.replicate ops.size false) a w.drew) : (Code.region id ops true).wpIn (Fence.wide.inRound l) n P Q a w :=
  wpIn_region_any hm (wpAnyIn_of_wpAny hnd hL _ _ _ _ (wpAny_of_G _ _ _ _ h))
/-- The beginning, in no round. -/
theorem wp_region_G {id e : Nat} {a : Act} {w : World} (hm : P.follows .mixedOrders = true)
    (h : wpAnyG P .any ops Q S e ops.size (Array.replicate ops.size false) a w.drew) : (Code.region id ops true).wp P Q a w :=
  wp_region_any hm (wpAny_of_G _ _ _ _ h)
theorem wpIn_region_G0 {n id e : Nat} {a : Act} {w : World} (hm : P.follows .mixedOrders = true)
    (h : wpAnyG P .any ops Q S e ops.size (Array.replicate ops.size false) a w.drew) : (Code.region id ops true).wpIn Fence.wide n P Q a w :=
  wpIn_wide.2 (wp_region_G hm h)
end

end Go.Proofs.YtoblkmbmacimiaaDoor.B

namespace Go.Proofs.YtoblkmbmacimiaaDoor.B
open Go Go.RowKit Go.Proofs.YtoblkmbmacimiaaDoorW.PrintWords
section
variable {P : Program} {ops : Array Oper} {Q : Exit → Act → World → Prop} {md : Region.Mode} {S : World → Prop}
theorem wpListIn_of_wpList {l n : Nat} (hL : ¬ LetsOut Q) : ∀ (os : List Oper), noDefer os.toArray = true → ∀ (a : Act) (w : World), wpList P ops Q os a w → wpListIn (Fence.wide.inRound l) n P ops Q os a w
  | [], _, _, _, h => h
  | o :: os, hnd, a, w, h => by
    have h0 : ∀ c, o.op ≠ .defer c := fun c => noDefer_spec hnd (i := 0) (o := o) (by simp) c
    have h1 : noDefer os.toArray = true := by
      unfold noDefer at hnd ⊢
      simp only [List.all_toArray, List.all_cons, Bool.and_eq_true] at hnd ⊢
      exact hnd.2
    unfold wpList at h
    unfold wpListIn
    split
    · rename_i hw
      rw [if_pos hw] at h
      exact opIn_of_wp h0 (Oper.wp_mono (fun a' w' h' => wpListIn_of_wpList hL os h1 a' w' h') (h.resolve_right fun hh => hL hh.2))
    · rename_i hw
      rw [if_neg hw] at h
      exact ⟨fun f _ => trivial, wpListIn_of_wpList hL os h1 _ _ h⟩
/-- A region in the order of the text, in a round. -/
theorem wpIn_region_plain {l n id : Nat} {os : List Oper} {a : Act} {w : World} (hnd : noDefer os.toArray = true) (hL : ¬ LetsOut Q) (h : wpList P os.toArray Q os a w) : (Code.region id os.toArray false).wpIn (Fence.wide.inRound l) n P Q a w :=
  wpIn_region_lit (wpListIn_of_wpList hL os hnd a w h)

end

theorem Stable.R {B Bw base e : Nat} {K : IntKind} {v : Value} {ys : List Int} : Stable B Bw (fun W => (Kd.int K).R e W base (fun k => k ≠ Bw) v ys) := fun W W' row hs hg hr =>
  Kd.R_mono (Kd.R_move (Kd.R_bound hs) (fun k hk => hg.block k hk.2.2.1 (fun he => by
    rcases hr k he.symm with h | ⟨_, o, ho, hc⟩
    · exact hk.1 h
    · obtain ⟨q, _, cells, hcells⟩ := hk.2.2.2
      rw [hcells] at ho; cases ho; simp [Obj.isCells] at hc))) (fun _ hk => hk.1)

end Go.Proofs.YtoblkmbmacimiaaDoor.B
