/-
  CamberBound: for every input the call returns true, and the input reads as it did. (Conditions: the row's own: the variable 'first' of package camber reads as the program's text lays it, which the card ties.)
-/
import Derived.Test.YtpmamdadcmcbeaaDoorRow
import Derived.Test.YtpmamdadcmcbeaaDoorW75
namespace Go.Proofs.YtpmamdadcmcbeaaDoor
open Go.ChangeShapes Go.WideShapes Go.ChangeAt Go.RowKit
open Go.ChangeMaps (open_string shut_string)
set_option linter.unusedVariables false

set_option maxRecDepth 100000 in
theorem CamberBound_lifted (os : Os) (started : os.Started) (H : Type) (enc : TypeId × Value → H) :
    ReturnsInHanded {} Tryd.checked os 5 .any (fun w args => (Rows.camberBoundSpec.pre enc Tryd.prog Tryd.f5 [] false w args ∧ laidMet Tryd.prog [("remould/camber.first", Rows.laid_remould_camber_first)] w) ∧ sizedMet enc Tryd.prog Tryd.f5 (OpenSpec.ofChange Rows.camberBoundSpec) false w args)
      (Rows.camberBoundSpec.post enc Tryd.prog Tryd.f5 false true false false) := by
  refine returnsInHanded_of_change_and (C := Tryd.checked) (X := fun w _ => laidMet Tryd.prog [("remould/camber.first", Rows.laid_remould_camber_first)] w) (fun _ _ _ hh h => h.of_heap hh) own started (by kernel_rfl) Tryd.func5
    (ChangeSpec.witness_at (enc := enc) (C := Tryd.checked) (os := os) (X := fun w _ => laidMet Tryd.prog [("remould/camber.first", Rows.laid_remould_camber_first)] w) false (laidWorld os) #[.string ⟨#[]⟩] 8 rfl (by kernel_rfl) (by kernel_rfl) (by kernel_rfl) (by kernel_rfl) (by kernel_rfl) (laidWorld_met os _)) ?_
  intro W base args ds gs before hval0 hW _ hsz0 hL _
  have hval : ∀ (j : Nat) t v, Tryd.f5.params[j]? = some t → args[j]? = some v → Value.okWide Tryd.prog W .any base t v := hval0
  have hW' := hW
  obtain ⟨p, q, hA0, hV0, rfl, hfz, hnd⟩ := hW
  have hA : DataW.TrodAll enc Tryd.prog W 0 (fun _ => true) true Tryd.f5.params.toList args.toList ds p := hA0
  have hV : DataW.TrodVars enc Tryd.prog W (fun _ => true) [] gs q := hV0
  rw [Tryd.params5] at hA hval
  obtain ⟨v0, vs0, d0, ds0, p0, q0, hargs, rfl, rfl, h0, r0⟩ := trodAll_cons hA
  obtain ⟨rfl, rfl, rfl⟩ := trodAll_nil r0
  obtain rfl : args = #[v0] := by cases args; simp_all
  obtain ⟨rfl, rfl⟩ : gs = [] ∧ q = [] := by
    cases gs with
    | nil => exact ⟨rfl, hV⟩
    | cons g r => exact absurd hV (by intro h; cases h)
  have hF := first_of_laid hL
  have hsz : (DataW.weightsEach Tryd.prog [9] [d0]).all (fun x => decide (x ≤ reachBytes)) = true := hsz0
  obtain ⟨s0, rfl, rfl, rfl, ws0⟩ := open_string Tryd.underlying9 (hval 0 9 v0 rfl rfl) h0
  have ls0 : s0.data.toList.length = s0.size := Array.length_toList
  have ss0 : s0.size ≤ 140737488351232 := by have := sized_string hsz (j := 0) (t := 9) (bytes := s0.data.toList) rfl rfl; rw [ls0] at this; simpa [reachBytes] using this
  clear hA0 hV0 hval0
  refine (CamberBound_walk s0 W ss0 hF).mono fun e W' ⟨he, bel⟩ => ?_
  subst he
  exact ⟨_, rfl, _, _, _, [], _, [], hW', trodAll_mk1 (shut_bool Tryd.underlying4 _), (trodAll_cons_mk (shut_string Tryd.underlying9 ws0) trodAll_mk0), rfl, bel.frame _, fun h => by cases h⟩

theorem CamberBound_over : Rows.camberBoundRow.holds Tryd.pinned (OpenSpec.ofChange Rows.camberBoundSpec) :=
  OpenClaim.holds_of_wide 5 Tryd.f5 rfl rfl rfl rfl rfl rfl rfl ⟨rfl, rfl, rfl, rfl, rfl⟩ rfl rfl rfl rfl rfl (by kernel_rfl) Tryd.func5 (by kernel_rfl)
    (of_decide_eq_true (by kernel_rfl)) (by unfold Func.isWrapper; first | (rw [if_pos (by decide +kernel)]; kernel_rfl) | (rw [if_neg (by decide +kernel)]; exact ⟨rfl, rfl⟩))
    (fun os started H enc _ => CamberBound_lifted os started H enc)

theorem CamberBound_named : Tryd.prog.funcNamed Rows.camberBoundRow.func = some 5 := by kernel_rfl
theorem CamberBound_proved : Rows.CamberBoundCardSaid :=
  Claim7.holds_tied_plain_at .later [] [.data] true (true, "d365a893f9e2f0c035524f928b88c84a0468950310d9a6f3dcd0a682d98a1a6f") false
    CamberBound_over (fun _ h => by cases h) (by kernel_rfl) (fun _ h => by cases h) camberBound_row_tie rfl ⟨rfl, rfl⟩ (by kernel_rfl) rfl
    (fun f fn hf hfn => by
      obtain rfl : f = 5 := Option.some.inj (CamberBound_named.symm.trans hf) |>.symm
      obtain rfl : fn = Tryd.f5 := (Option.some.inj (Tryd.func5.symm.trans hfn)).symm
      exact ⟨by kernel_rfl, fun j t ht => by
        rw [Tryd.params5] at ht
        have h3 : t = 9 := by
          have hm := Array.mem_of_getElem? ht
          simpa using hm
        rcases h3 with rfl
        · exact (show Tryd.prog.wantsStandIn 9 = false by kernel_rfl)
      ⟩)
    (by kernel_rfl)
#print axioms CamberBound_proved
end Go.Proofs.YtpmamdadcmcbeaaDoor
