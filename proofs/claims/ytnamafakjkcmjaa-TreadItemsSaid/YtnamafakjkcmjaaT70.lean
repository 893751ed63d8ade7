/-
  Two numbers that came in by value. No law stands in this text.
-/
import Derived.Test.YtnamafakjkcmjaaMT
import Derived.ChangeSame
import Derived.OpenShut
import Derived.ProofKit
namespace Go.Proofs.Ytnamafakjkcmjaa
open Go.ChangeShapes Go.WideShapes Go.ChangeAt Go.RowKit
set_option linter.unusedVariables false
set_option linter.unusedSimpArgs false
set_option maxRecDepth 100000

theorem cellsPair : Try.prog.cellsOf 38 = 2 := by kernel_rfl
theorem cellsInt1 : Try.prog.cellsOf 3 = 1 := by kernel_rfl
theorem int_of_trod {H : Type} {enc : TypeId × Value → H} {P : Program} {w : World} {base : Nat} {sp : Nat → Bool} {held : Bool} {fuel : Nat} {t : TypeId} {k : IntKind} {c : Value} {y : DataW H × List MemPlace}
    (ht : P.underlying t = some (.int k)) (h : DataW.trod enc P w base sp held fuel t [c] = some y) : ∃ n, c = .int k n ∧ (Lit.int k n).wf = true := by
  cases fuel with
  | zero => simp [DataW.trod] at h
  | succ fuel =>
    cases c <;> simp [DataW.trod, ht] at h
    rename_i k' n
    obtain ⟨⟨rfl, hw⟩, rfl⟩ := h
    exact ⟨n, rfl, hw⟩
theorem pair_of_trod {H : Type} {enc : TypeId × Value → H} {P : Program} {w : World} {base : Nat} {sp : Nat → Bool} {held : Bool} {fuel : Nat} {t e : TypeId} {k : IntKind} {c0 c1 : Value} {x : DataW H × List MemPlace}
    (ht : P.underlying t = some (.array 2 e)) (hce : P.cellsOf e = 1) (he : P.underlying e = some (.int k)) (h : DataW.trod enc P w base sp held fuel t [c0, c1] = some x) :
    ∃ n0 n1, c0 = .int k n0 ∧ c1 = .int k n1 ∧ (Lit.int k n0).wf = true ∧ (Lit.int k n1).wf = true := by
  cases fuel with
  | zero => simp [DataW.trod] at h
  | succ n =>
    unfold DataW.trod at h
    rw [ht] at h
    simp [show List.range 2 = [0, 1] from rfl, hce] at h
    obtain ⟨_, h⟩ := h
    cases h0 : DataW.trod enc P w base sp held n e [c0] with
    | none => simp [h0] at h
    | some y0 =>
      cases h1 : DataW.trod enc P w base sp held n e [c1] with
      | none => simp [h0, h1] at h
      | some y1 =>
        obtain ⟨n0, e0, w0⟩ := int_of_trod he h0
        obtain ⟨n1, e1, w1⟩ := int_of_trod he h1
        exact ⟨n0, n1, e0, e1, w0, w1⟩
theorem open_arr2 {H : Type} {enc : TypeId × Value → H} {W : World} {r : Reach} {base b0 : Nat} {sp : Nat → Bool} {held : Bool} {v : Value} {d : DataW H} {p : List MemPlace}
    (hv : Value.okWide Try.prog W r b0 38 v) (h : DataW.Trod enc Try.prog W base sp held 38 v d p) :
    ∃ x y : Int, v = .agg #[.int .i64 x, .int .i64 y] ∧ (Lit.int .i64 x).wf = true ∧ (Lit.int .i64 y).wf = true := by
  simp only [Value.okWide, Try.underlying38] at hv
  obtain ⟨cs, rfl, hs, _⟩ := hv
  obtain ⟨l⟩ := cs
  rw [cellsPair] at hs
  match l, hs with
  | [c0, c1], _ =>
    obtain ⟨fuel, hf⟩ := h
    obtain ⟨n0, n1, rfl, rfl, w0, w1⟩ := pair_of_trod Try.underlying38 cellsInt1 Try.underlying3 hf
    exact ⟨_, _, rfl, w0, w1⟩
end Go.Proofs.Ytnamafakjkcmjaa
