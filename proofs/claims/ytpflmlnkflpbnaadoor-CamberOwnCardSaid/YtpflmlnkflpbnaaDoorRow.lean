/-
  What every row of this seat wants: the listed variable's cells out of the row's condition, a world that meets it, arrays that came in. No law stands in this text.
-/
import Derived.Test.YtpflmlnkflpbnaaDoorTie
import Derived.Test.YtpflmlnkflpbnaaDoorCards
import Derived.Test.YtpflmlnkflpbnaaDoorW9
import Derived.WalkKit
import Derived.ProofKit
import Derived.OpenShut
import Derived.ShutString
import Derived.ChangeOld
import Derived.Below
import Derived.SizedLaws
import Derived.SevenTiedAt
import Derived.LaidLaws
import Derived.ChangeVars
import Derived.JoinedOf
import Derived.Laws.IdiomArrays
namespace Go.Proofs.YtpflmlnkflpbnaaDoor
open Go.ChangeShapes Go.WideShapes Go.ChangeAt Go.RowKit
open Go.ChangeMaps (open_string shut_string)
set_option linter.unusedVariables false
set_option maxRecDepth 100000

theorem own : ownKnob Tryd.prog.godebug = none := by kernel_rfl
theorem laidOut : laidOutB Tryd.prog = true := by kernel_rfl
theorem firstNamed : Tryd.prog.globalNamed "remould/camber.first" = some 0 := by kernel_rfl
theorem firstType : (Tryd.prog.globals[0]?).map (·.type) = some 42 := by kernel_rfl
theorem cellsTri : Tryd.prog.cellsOf 42 = 3 := by kernel_rfl
theorem cellsArr : Tryd.prog.cellsOf 32 = 3 := by kernel_rfl
theorem cellsInt : Tryd.prog.cellsOf 3 = 1 := by kernel_rfl

theorem int_of_trod {H : Type} {enc : TypeId × Value → H} {P : Program} {w : World} {base : Nat} {sp : Nat → Bool} {held : Bool} {fuel : Nat} {t : TypeId} {k : IntKind} {c : Value} {y : DataW H × List MemPlace}
    (ht : P.underlying t = some (.int k)) (h : DataW.trod enc P w base sp held fuel t [c] = some y) : ∃ n, c = .int k n ∧ y = (.lit (.int k n), []) ∧ (Lit.int k n).wf = true := by
  cases fuel with
  | zero => simp [DataW.trod] at h
  | succ fuel =>
    cases c <;> simp [DataW.trod, ht] at h
    rename_i k' n
    obtain ⟨⟨rfl, hw⟩, rfl⟩ := h
    exact ⟨n, rfl, rfl, hw⟩

def cells125 : Array Value := #[.int .i64 1, .int .i64 2, .int .i64 5]

/-- What the condition gives a walk. -/
theorem cells_of_laid {W : World} (h : laidMet Tryd.prog [("remould/camber.first", Rows.laid_remould_camber_first)] W) : W.var? Tryd.prog "remould/camber.first" = some cells125 := by
  obtain ⟨ps, ⟨g, t, cs, fuel, p, q, hg, ht, hvar, hd, _, _⟩, _⟩ := h
  obtain rfl := Option.some.inj (firstNamed.symm.trans hg)
  obtain rfl := Option.some.inj (firstType.symm.trans ht)
  rw [hvar]
  congr 1
  obtain ⟨l⟩ := cs
  have hl : l.length = 3 := by
    cases fuel with
    | zero => simp [DataW.trod] at hd
    | succ fuel =>
      simp only [DataW.trod, Tryd.underlying42, cellsTri, cellsInt] at hd
      split at hd
      · rename_i hl; simpa using hl
      · cases hd
  match l, hl with
  | [c0, c1, c2], _ =>
    obtain ⟨y0, y1, y2, n, hx, h0, h1, h2⟩ := trod_array3 Tryd.underlying42 cellsInt hd
    obtain ⟨n0, rfl, rfl, _⟩ := int_of_trod Tryd.underlying3 h0
    obtain ⟨n1, rfl, rfl, _⟩ := int_of_trod Tryd.underlying3 h1
    obtain ⟨n2, rfl, rfl, _⟩ := int_of_trod Tryd.underlying3 h2
    simp [Rows.laid_remould_camber_first] at hx
    obtain ⟨⟨rfl, rfl, rfl⟩, _⟩ := hx
    rfl
theorem first_of_laid {W : World} (h : laidMet Tryd.prog [("remould/camber.first", Rows.laid_remould_camber_first)] W) : FirstAt W := by
  have hv := cells_of_laid h
  have c := World.var?_cell firstNamed hv
  exact ⟨c 0, c 1, c 2, World.block_lt_of_cell? _ _ (c 0)⟩

/-- A world that meets the condition. -/
noncomputable def laidWorld (os : Os) : World :=
  { World.holding Tryd.prog os ⟨#[], #[], []⟩ with heap := (World.holding Tryd.prog os ⟨#[], #[], []⟩).heap.modify 0 fun
      | .cells _ t frozen => .cells cells125 t frozen
      | o => o }
theorem laidWorld_row (os : Os) (args : Array Value) : ((laidWorld os).forCall (fun _ _ => 0) ⟨#[], args, []⟩).memory.heap[0]? = some (.cells cells125 42 (0, 0)) := by kernel_rfl
set_option maxRecDepth 100000 in
theorem laidWorld_met (os : Os) (args : Array Value) : laidMet Tryd.prog [("remould/camber.first", Rows.laid_remould_camber_first)] ((laidWorld os).forCall (fun _ _ => 0) ⟨#[], args, []⟩).memory :=
  ⟨_, ⟨0, 42, cells125, 8, [], [], by kernel_rfl, by kernel_rfl, by kernel_rfl, by kernel_rfl, rfl, rfl⟩, by decide, fun b off h => by
    have h' : MemPlace.cell b off ∈ [MemPlace.cell 0 0, .cell 0 1, .cell 0 2] := h
    have hb : b = 0 := by
      simp at h'
      omega
    subst hb
    refine ⟨⟨_, _, laidWorld_row os args⟩, fun u v hc => ?_⟩
    simp only [World.cell?, laidWorld_row os args] at hc
    simp at h'
    rcases h' with rfl | rfl | rfl <;> simp [cells125] at hc⟩

/-- Three numbers that came in by value. -/
theorem open_arr3 {H : Type} {enc : TypeId × Value → H} {W : World} {r : Reach} {base b0 : Nat} {sp : Nat → Bool} {held : Bool} {v : Value} {d : DataW H} {p : List MemPlace}
    (hv : Value.okWide Tryd.prog W r b0 32 v) (h : DataW.Trod enc Tryd.prog W base sp held 32 v d p) :
    ∃ x y z : Int, v = .agg #[.int .i64 x, .int .i64 y, .int .i64 z] := by
  simp only [Value.okWide, Tryd.underlying32] at hv
  obtain ⟨cs, rfl, hs, _⟩ := hv
  obtain ⟨l⟩ := cs
  rw [cellsArr] at hs
  match l, hs with
  | [c0, c1, c2], _ =>
    obtain ⟨fuel, hf⟩ := h
    obtain ⟨y0, y1, y2, n, hx, h0, h1, h2⟩ := trod_array3 Tryd.underlying32 cellsInt hf
    obtain ⟨n0, rfl, _, _⟩ := int_of_trod Tryd.underlying3 h0
    obtain ⟨n1, rfl, _, _⟩ := int_of_trod Tryd.underlying3 h1
    obtain ⟨n2, rfl, _, _⟩ := int_of_trod Tryd.underlying3 h2
    exact ⟨_, _, _, rfl⟩
end Go.Proofs.YtpflmlnkflpbnaaDoor
