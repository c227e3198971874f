/- The row of MapsChecks, out of its plain statement and the walk. -/
import Derived.Test.YtoblkmbmacimiaaDoorOpen
import Derived.Test.YtoblkmbmacimiaaDoorOpenRows
import Derived.Test.YtoblkmbmacimiaaDoorCards
import Derived.Test.YtoblkmbmacimiaaDoorTie
import Derived.SevenTiedAt
import Derived.Test.YtoblkmbmacimiaaDoorGteamsterlawMapsChecks
namespace Go.Proofs.YtoblkmbmacimiaaDoor.MapsChecks
open Go.ChangeShapes Go.WideShapes Go.RowKit Go.Deep Go.Joins
open Go.Proofs.YtoblkmbmacimiaaDoorW.PrintWords Go.Proofs.YtoblkmbmacimiaaDoor.G Go.Proofs.YtoblkmbmacimiaaDoor.O

/-- What is to be shown of plain numbers and lists. -/
def Pure : Prop := ∀ (n : Int) (l : List S57) (x : List (List Int)), W64 n → (∀ e ∈ l, Wf57 e) → (∀ r ∈ x, r.length * 8 ≤ 140737488355328) → ∃ k, teamsterlaw_MapsChecks.f k n l x = some true

set_option maxRecDepth 100000 in
theorem lifted (hP : Pure) (os : Os) (started : os.Started) (H : Type) (enc : TypeId × Value → H) :
    ReturnsInHanded {} Tryd.checked os 8 .any (fun w args => (Rows.mapsChecksSpec.pre enc Tryd.prog Tryd.f8 [] false w args ∧ laidMetH Tryd.prog laidTab w) ∧ sizedMet enc Tryd.prog Tryd.f8 (OpenSpec.ofChange Rows.mapsChecksSpec) false w args)
      (Rows.mapsChecksSpec.post enc Tryd.prog Tryd.f8 false true false false) := by
  refine returnsInHanded_of_change_and (C := Tryd.checked) (X := fun w _ => laidMetH Tryd.prog laidTab w) (fun _ _ _ hh h => h.of_heap hh) own started (by kernel_rfl) Tryd.func8
    (ChangeSpec.witness_at (enc := enc) (C := Tryd.checked) (os := os) (X := fun w _ => laidMetH Tryd.prog laidTab w) false (laidWorld os) #[.agg #[.int .i64 0, .slice none 0 0], .slice none 0 0] 8 rfl (by kernel_rfl) (by kernel_rfl) (by kernel_rfl) (by kernel_rfl) (by kernel_rfl) (laidWorld_met os _)) ?_
  intro W base args ds gs before hval0 hW _ hsz0 hL _
  have hval : ∀ (j : Nat) t v, Tryd.f8.params[j]? = some t → args[j]? = some v → Value.okWide Tryd.prog W .any base t v := hval0
  have hW' := hW
  obtain ⟨p, q, hA0, hV0, rfl, hfz, hnd⟩ := hW
  have hA : DataW.TrodAll enc Tryd.prog W 0 (fun _ => true) true Tryd.f8.params.toList args.toList ds p := hA0
  have hV : DataW.TrodVars enc Tryd.prog W (fun _ => true) [] gs q := hV0
  rw [Tryd.params8] at hA hval
  obtain ⟨v0, v1, d0, d1, p0, p1, rfl, rfl, rfl, h0, h1⟩ := trodAll_two hA
  obtain ⟨n, A, c, l, rfl, hC, hlc, wn, wl⟩ := graph_open (hval 0 24 v0 rfl rfl) h0
  have hsz : (DataW.weightsEach Tryd.prog (Tryd.f8.params.toList ++ Rows.mapsChecksSpec.plain.varTypes Tryd.prog) ([d0, d1] ++ gs)).all (· ≤ reachBytes) = true := hsz0
  have hlight : Light Tryd.prog 44 d1 := fun m hm => by
    have := List.all_eq_true.1 hsz _ (DataW.weights_mem_each (j := 1) (t := 44) (d := d1) rfl rfl m hm)
    simpa using this
  obtain ⟨Ax, cx, x, rfl, hCx, hlx, wx0⟩ := rows_open (hval 1 44 v1 rfl rfl) h1 hlight
  have wx : ∀ r ∈ x, r.length * 8 ≤ 140737488355328 := fun r hr => (wx0 r hr).le
  have hT := tab_of_laid hL
  obtain ⟨rfl, rfl⟩ := trodVars_none hV
  have lt0 : ∀ x ∈ p0, x.block < W.heap.size := by obtain ⟨m, hm⟩ := h0; exact DataW.trod_lt m _ _ _ hm
  have lt1 : ∀ x ∈ p1, x.block < W.heap.size := by obtain ⟨m, hm⟩ := h1; exact DataW.trod_lt m _ _ _ hm
  obtain ⟨k, hk⟩ := hP n l x wn wl wx
  refine (teamsterlaw_MapsChecks.calls k n A c l Ax cx x true W hC hlc hCx hlx hk hT).mono fun e W' ⟨he, bel⟩ => ?_
  subst he
  exact ⟨_, rfl, _, _, _, [], _, [], hW', trodAll_mk1 (shut_bool Tryd.underlying4 _), trodAll_mk2 (Below.trod O.laidOut (by kernel_rfl) (of_decide_eq_true (by kernel_rfl)) h0 bel lt0) (Below.trod O.laidOut (by kernel_rfl) (of_decide_eq_true (by kernel_rfl)) h1 bel lt1), rfl, bel.frame _, fun h => by cases h⟩

theorem over (hP : Pure) : Rows.MapsChecksSaid :=
  OpenClaim.holds_of_wide 8 Tryd.f8 rfl rfl rfl rfl rfl rfl rfl ⟨rfl, rfl, rfl, rfl, rfl⟩ rfl rfl rfl rfl rfl (by kernel_rfl) Tryd.func8 (by kernel_rfl)
    (of_decide_eq_true (by kernel_rfl)) (by unfold Func.isWrapper; first | (rw [if_pos (by decide +kernel)]; kernel_rfl) | (rw [if_neg (by decide +kernel)]; exact ⟨rfl, rfl⟩))
    (fun os started H enc _ => lifted hP os started H enc)

theorem card (hP : Pure) : Rows.MapsChecksCardSaid :=
  Claim7.holds_tied_plain_at .later [] [.data] true (true, "8e37339f3037b40ea62d8f5b33dfcf41237953a8c573e0f2231edaaf7e6c351e") false
    (over hP) (fun _ h => by cases h) (by kernel_rfl) (fun _ h => by cases h) mapsChecks_row_tie rfl ⟨rfl, rfl⟩ (by kernel_rfl) rfl
    (fun f fn hf hfn => by
      obtain rfl : f = 8 := Option.some.inj ((show Tryd.prog.funcNamed "teamster/teamsterlaw.MapsChecks" = some 8 by kernel_rfl).symm.trans hf) |>.symm
      obtain rfl : fn = Tryd.f8 := (Option.some.inj (Tryd.func8.symm.trans hfn)).symm
      exact ⟨by kernel_rfl, fun j t ht => by
        rw [Tryd.params8] at ht
        rcases j with _ | _ | j
        · obtain rfl : t = 24 := by simpa using ht.symm
          exact (show Tryd.prog.wantsStandIn 24 = false by kernel_rfl)
        · obtain rfl : t = 44 := by simpa using ht.symm
          exact (show Tryd.prog.wantsStandIn 44 = false by kernel_rfl)
        · simp at ht⟩)
    (by kernel_rfl)

end Go.Proofs.YtoblkmbmacimiaaDoor.MapsChecks
