/- Plain: what the printed functions come to where the fuel is large enough. -/
import Derived.Test.YtoblkmbmacimiaaGZero
namespace Go.Proofs.Ytoblkmbmacimiaa.L
open Go Go.RowKit Go.Proofs.YtoblkmbmacimiaaW.PrintWords

def Ev {α : Type} (f : Nat → Option α) (v : α) : Prop := ∃ k0, ∀ k, k0 ≤ k → f k = some v
theorem Ev.step {α : Type} {f g : Nat → Option α} {v : α} (h : ∀ k, f (k + 1) = g k) (hg : Ev g v) : Ev f v := by
  obtain ⟨k0, h0⟩ := hg
  refine ⟨k0 + 1, fun k hk => ?_⟩
  obtain ⟨k, rfl⟩ : ∃ m, k = m + 1 := ⟨k - 1, by omega⟩
  rw [h]; exact h0 k (by omega)
theorem Ev.const {α : Type} (v : α) : Ev (fun _ => some v) v := ⟨0, fun _ _ => rfl⟩
theorem Ev.of_eq {α : Type} {f : Nat → Option α} {v : α} (h : ∀ k, f k = some v) : Ev f v := ⟨0, fun k _ => h k⟩
theorem Ev.bind {α β : Type} {a : Nat → Option α} {b : Nat → α → Option β} {u : α} {v : β} (ha : Ev a u) (hb : Ev (fun k => b k u) v) : Ev (fun k => (a k).bind (b k)) v := by
  obtain ⟨k0, h0⟩ := ha
  obtain ⟨k1, h1⟩ := hb
  refine ⟨max k0 k1, fun k hk => ?_⟩
  show (a k).bind (b k) = some v
  rw [h0 k (by omega)]; exact h1 k (by omega)
theorem Ev.congr {α : Type} {f g : Nat → Option α} {v : α} (h : ∀ k, f k = g k) (hg : Ev g v) : Ev f v := by
  obtain ⟨k0, h0⟩ := hg
  exact ⟨k0, fun k hk => by rw [h]; exact h0 k hk⟩
theorem Ev.get {α : Type} {f : Nat → Option α} {v : α} (h : Ev f v) : ∃ k, f k = some v := by
  obtain ⟨k0, h0⟩ := h
  exact ⟨k0, h0 k0 (Nat.le_refl _)⟩

theorem w64 {x : Int} (h0 : -1000000000 ≤ x) (h1 : x < 9223372036854775807) : wrap64 x = x := by unfold wrap64; omega
theorem wnext (i : Nat) (h : i < 1000000) : wrap64 ((i : Int) + 1) = ((i + 1 : Nat) : Int) := by rw [w64 (by omega) (by omega)]; omega
theorem rd_set (xs : List Int) (a v : Nat) (x : Int) (h : a < xs.length) : rd (xs.set a x) (v : Int) = if a = v then x else rd xs (v : Int) := by
  unfold rd
  rw [Int.toNat_natCast, List.getD_eq_getElem?_getD, List.getD_eq_getElem?_getD, List.getElem?_set]
  by_cases e : a = v
  · rw [if_pos e, if_pos h, if_pos e]; rfl
  · rw [if_neg e, if_neg e]

end Go.Proofs.Ytoblkmbmacimiaa.L
