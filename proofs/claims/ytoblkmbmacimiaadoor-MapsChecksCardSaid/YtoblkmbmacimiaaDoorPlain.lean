/- A region in the order of the text, walked in a round as elsewhere; a row of one's own between two rounds. -/
import Derived.Test.YtoblkmbmacimiaaDoorHeld
import Derived.Test.YtoblkmbmacimiaaDoorEach1
import Derived.Test.YtoblkmbmacimiaaDoorGZero
namespace Go.Proofs.YtoblkmbmacimiaaDoor.B
open Go Go.RowKit Go.Proofs.YtoblkmbmacimiaaDoorW.PrintWords
section
variable {P : Program} {ops : Array Oper} {Q : Exit → Act → World → Prop} {md : Region.Mode} {S : World → Prop}
theorem wpListIn_of_wpList {l n : Nat} (hL : ¬ LetsOut Q) : ∀ (os : List Oper), noDefer os.toArray = true → ∀ (a : Act) (w : World), wpList P ops Q os a w → wpListIn (Fence.wide.inRound l) n P ops Q os a w
  | [], _, _, _, h => h
  | o :: os, hnd, a, w, h => by
    have h0 : ∀ c, o.op ≠ .defer c := fun c => noDefer_spec hnd (i := 0) (o := o) (by simp) c
    have h1 : noDefer os.toArray = true := by
      unfold noDefer at hnd ⊢
      simp only [List.all_toArray, List.all_cons, Bool.and_eq_true] at hnd ⊢
      exact hnd.2
    unfold wpList at h
    unfold wpListIn
    split
    · rename_i hw
      rw [if_pos hw] at h
      exact opIn_of_wp h0 (Oper.wp_mono (fun a' w' h' => wpListIn_of_wpList hL os h1 a' w' h') (h.resolve_right fun hh => hL hh.2))
    · rename_i hw
      rw [if_neg hw] at h
      exact ⟨fun f _ => trivial, wpListIn_of_wpList hL os h1 _ _ h⟩
/-- A region in the order of the text, in a round. -/
theorem wpIn_region_plain {l n id : Nat} {os : List Oper} {a : Act} {w : World} (hnd : noDefer os.toArray = true) (hL : ¬ LetsOut Q) (h : wpList P os.toArray Q os a w) : (Code.region id os.toArray false).wpIn (Fence.wide.inRound l) n P Q a w :=
  wpIn_region_lit (wpListIn_of_wpList hL os hnd a w h)

end

theorem Stable.R {B Bw base e : Nat} {K : IntKind} {v : Value} {ys : List Int} : Stable B Bw (fun W => (Kd.int K).R e W base (fun k => k ≠ Bw) v ys) := fun W W' row hs hg hr =>
  Kd.R_mono (Kd.R_move (Kd.R_bound hs) (fun k hk => hg.block k hk.2.2.1 (fun he => by
    rcases hr k he.symm with h | ⟨_, o, ho, hc⟩
    · exact hk.1 h
    · obtain ⟨q, _, cells, hcells⟩ := hk.2.2.2
      rw [hcells] at ho; cases ho; simp [Obj.isCells] at hc))) (fun _ hk => hk.1)

end Go.Proofs.YtoblkmbmacimiaaDoor.B
