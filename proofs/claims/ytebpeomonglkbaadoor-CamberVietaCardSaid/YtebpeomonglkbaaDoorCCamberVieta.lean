/-
  CamberVieta: for every input the call returns true, and the input reads as it did. (Conditions: the row's own: the variable 'first' of package camber reads as the program's text lays it, which the card ties.)
-/
import Derived.Test.YtebpeomonglkbaaDoorRow
import Derived.Test.YtebpeomonglkbaaDoorW36
namespace Go.Proofs.YtebpeomonglkbaaDoor
open Go.ChangeShapes Go.WideShapes Go.ChangeAt Go.RowKit
open Go.ChangeMaps (open_string shut_string)
set_option linter.unusedVariables false

set_option maxRecDepth 100000 in
theorem CamberVieta_lifted (os : Os) (started : os.Started) (H : Type) (enc : TypeId × Value → H) :
    ReturnsInHanded {} Tryd.checked os 14 .any (fun w args => (Rows.camberVietaSpec.pre enc Tryd.prog Tryd.f14 [] false w args ∧ laidMet Tryd.prog [("remould/camber.first", Rows.laid_remould_camber_first)] w) ∧ sizedMet enc Tryd.prog Tryd.f14 (OpenSpec.ofChange Rows.camberVietaSpec) false w args)
      (Rows.camberVietaSpec.post enc Tryd.prog Tryd.f14 false true false false) := by
  refine returnsInHanded_of_change_and (C := Tryd.checked) (X := fun w _ => laidMet Tryd.prog [("remould/camber.first", Rows.laid_remould_camber_first)] w) (fun _ _ _ hh h => h.of_heap hh) own started (by kernel_rfl) Tryd.func14
    (ChangeSpec.witness_at (enc := enc) (C := Tryd.checked) (os := os) (X := fun w _ => laidMet Tryd.prog [("remould/camber.first", Rows.laid_remould_camber_first)] w) false (laidWorld os) #[.string ⟨#[]⟩, .int .i64 0] 8 rfl (by kernel_rfl) (by kernel_rfl) (by kernel_rfl) (by kernel_rfl) (by kernel_rfl) (laidWorld_met os _)) ?_
  intro W base args ds gs before hval0 hW _ hsz0 hL _
  have hval : ∀ (j : Nat) t v, Tryd.f14.params[j]? = some t → args[j]? = some v → Value.okWide Tryd.prog W .any base t v := hval0
  have hW' := hW
  obtain ⟨p, q, hA0, hV0, rfl, hfz, hnd⟩ := hW
  have hA : DataW.TrodAll enc Tryd.prog W 0 (fun _ => true) true Tryd.f14.params.toList args.toList ds p := hA0
  have hV : DataW.TrodVars enc Tryd.prog W (fun _ => true) [] gs q := hV0
  rw [Tryd.params14] at hA hval
  obtain ⟨v0, vs0, d0, ds0, p0, q0, hargs, rfl, rfl, h0, r0⟩ := trodAll_cons hA
  obtain ⟨v1, vs1, d1, ds1, p1, q1, rfl, rfl, rfl, h1, r1⟩ := trodAll_cons r0
  obtain ⟨rfl, rfl, rfl⟩ := trodAll_nil r1
  obtain rfl : args = #[v0, v1] := by cases args; simp_all
  obtain ⟨rfl, rfl⟩ : gs = [] ∧ q = [] := by
    cases gs with
    | nil => exact ⟨rfl, hV⟩
    | cons g r => exact absurd hV (by intro h; cases h)
  have hF := first_of_laid hL
  have hsz : (DataW.weightsEach Tryd.prog [9, 3] [d0, d1]).all (fun x => decide (x ≤ reachBytes)) = true := hsz0
  obtain ⟨s0, rfl, rfl, rfl, ws0⟩ := open_string Tryd.underlying9 (hval 0 9 v0 rfl rfl) h0
  have ls0 : s0.data.toList.length = s0.size := Array.length_toList
  have ss0 : s0.size ≤ 140737488351232 := by have := sized_string hsz (j := 0) (t := 9) (bytes := s0.data.toList) rfl rfl; rw [ls0] at this; simpa [reachBytes] using this
  obtain ⟨n1, rfl, rfl, rfl, wn1⟩ := open_int Tryd.underlying3 (hval 1 3 v1 rfl rfl) h1
  clear hA0 hV0 hval0
  refine (CamberVieta_walk s0 n1 W ss0 wn1 hF).mono fun e W' ⟨he, bel⟩ => ?_
  subst he
  exact ⟨_, rfl, _, _, _, [], _, [], hW', trodAll_mk1 (shut_bool Tryd.underlying4 _), (trodAll_cons_mk (shut_string Tryd.underlying9 ws0) (trodAll_cons_mk (shut_int Tryd.underlying3 wn1) trodAll_mk0)), rfl, bel.frame _, fun h => by cases h⟩

theorem CamberVieta_over : Rows.camberVietaRow.holds Tryd.pinned (OpenSpec.ofChange Rows.camberVietaSpec) :=
  OpenClaim.holds_of_wide 14 Tryd.f14 rfl rfl rfl rfl rfl rfl rfl ⟨rfl, rfl, rfl, rfl, rfl⟩ rfl rfl rfl rfl rfl (by kernel_rfl) Tryd.func14 (by kernel_rfl)
    (of_decide_eq_true (by kernel_rfl)) (by unfold Func.isWrapper; first | (rw [if_pos (by decide +kernel)]; kernel_rfl) | (rw [if_neg (by decide +kernel)]; exact ⟨rfl, rfl⟩))
    (fun os started H enc _ => CamberVieta_lifted os started H enc)

theorem CamberVieta_named : Tryd.prog.funcNamed Rows.camberVietaRow.func = some 14 := by kernel_rfl
theorem CamberVieta_proved : Rows.CamberVietaCardSaid :=
  Claim7.holds_tied_plain_at .later [] [.data] true (true, "92090dee593a4acc38212db6de944c0840cb630d7a120e66aacb578e87531fde") false
    CamberVieta_over (fun _ h => by cases h) (by kernel_rfl) (fun _ h => by cases h) camberVieta_row_tie rfl ⟨rfl, rfl⟩ (by kernel_rfl) rfl
    (fun f fn hf hfn => by
      obtain rfl : f = 14 := Option.some.inj (CamberVieta_named.symm.trans hf) |>.symm
      obtain rfl : fn = Tryd.f14 := (Option.some.inj (Tryd.func14.symm.trans hfn)).symm
      exact ⟨by kernel_rfl, fun j t ht => by
        rw [Tryd.params14] at ht
        have h3 : t = 3 ∨ t = 9 := by
          have hm := Array.mem_of_getElem? ht
          first | (simp at hm; exact hm) | (simp at hm; exact hm.symm) | (simp at hm; omega)
        rcases h3 with rfl | rfl
        · exact (show Tryd.prog.wantsStandIn 3 = false by kernel_rfl)
        · exact (show Tryd.prog.wantsStandIn 9 = false by kernel_rfl)
      ⟩)
    (by kernel_rfl)
#print axioms CamberVieta_proved
end Go.Proofs.YtebpeomonglkbaaDoor
