import Derived.Test.YtpflmlnkflpbnaaDoorW9
import Derived.Test.YtpflmlnkflpbnaaDoorW6
namespace Go.Proofs.YtpflmlnkflpbnaaDoor
open Go.RowKit Go.Sort Cam
set_option linter.unusedVariables false

/-- ref.Exchange at a solution. -/
theorem refEx2 (x y z : Int) (w : World) (h : Tri x y z) (h4 : z ≤ 1000000000) (h2 : 2 ≤ z) :
    Calls Tryd.prog 27 #[trip x y z, .int .i64 2] w fun e w' =>
      e = .returned (.tuple #[trip (min x (3 * x * y - z)) (max x (3 * x * y - z)) y, .bool true]) ∧ Below w.heap.size w w' := by
  obtain ⟨a, b, c⟩ := Tri.le3 h h4
  obtain ⟨p, l⟩ := h.parent h2
  have e1 : min x (min y (3 * x * y - z)) = min x (3 * x * y - z) := by have := p.2.1; have := p.2.2.1; omega
  have e2 : mid x y (3 * x * y - z) = max x (3 * x * y - z) := by unfold mid; have := p.2.1; have := p.2.2.1; omega
  have e3 : max x (max y (3 * x * y - z)) = y := by have := p.2.1; have := p.2.2.1; omega
  have k := refExchange2 x y z w a b c
  rw [srt_eq e1 e2 e3, e3, show decide (y ≤ 1000000000) = true from by simp; omega] at k
  exact k
theorem refEx0 (x y z : Int) (w : World) (h : Tri x y z) (h4 : z ≤ 1000000000) :
    Calls Tryd.prog 27 #[trip x y z, .int .i64 0] w fun e w' =>
      e = .returned (.tuple #[trip y z (3 * y * z - x), .bool (decide (3 * y * z - x ≤ 1000000000))]) ∧ Below w.heap.size w w' := by
  obtain ⟨a, b, c⟩ := Tri.le3 h h4
  have l := h.left
  have e1 : min y (min z (3 * y * z - x)) = y := by have := l.2.1; have := l.2.2.1; omega
  have e2 : mid y z (3 * y * z - x) = z := by unfold mid; have := l.2.1; have := l.2.2.1; omega
  have e3 : max y (max z (3 * y * z - x)) = 3 * y * z - x := by have := l.2.1; have := l.2.2.1; omega
  have k := refExchange0 x y z w a b c
  rw [srt_eq e1 e2 e3, e3] at k
  exact k
theorem refEx1 (x y z : Int) (w : World) (h : Tri x y z) (h4 : z ≤ 1000000000) :
    Calls Tryd.prog 27 #[trip x y z, .int .i64 1] w fun e w' =>
      e = .returned (.tuple #[trip x z (3 * x * z - y), .bool (decide (3 * x * z - y ≤ 1000000000))]) ∧ Below w.heap.size w w' := by
  obtain ⟨a, b, c⟩ := Tri.le3 h h4
  have l := h.right
  have e0 : 3 * z * x = 3 * x * z := by grind
  have k := refExchange1 x y z w a b c
  rw [e0] at k
  have e1 : min z (min x (3 * x * z - y)) = x := by have := l.2.1; have := l.2.2.1; omega
  have e2 : mid z x (3 * x * z - y) = z := by unfold mid; have := l.2.1; have := l.2.2.1; omega
  have e3 : max z (max x (3 * x * z - y)) = 3 * x * z - y := by have := l.2.1; have := l.2.2.1; omega
  rw [srt_eq e1 e2 e3, e3] at k
  exact k

end Go.Proofs.YtpflmlnkflpbnaaDoor
