import Derived.Test.YtpflmlnkflpbnaaDoorW17
namespace Go.Proofs.YtpflmlnkflpbnaaDoor
open Go.RowKit Go.Sort Cam
set_option linter.unusedVariables false

/-- A solution with one number exchanged. -/
def exF (at' x y z : Int) : T3 := if at' = 0 then (y, z, 3 * y * z - x) else if at' = 1 then (x, z, 3 * x * z - y) else if z = 1 then (1, 1, 2) else (min x (3 * x * y - z), max x (3 * x * y - z), y)
def vT (t : T3) : Value := trip t.1 t.2.1 t.2.2
def okB (t : T3) : Bool := decide (t.2.2 ≤ 1000000000)

theorem Tri.one {x y : Int} (h : Tri x y 1) : x = 1 ∧ y = 1 := by
  obtain ⟨h1, h2, h3, _⟩ := h; omega
theorem exch_any (a x y z : Int) (w : World) (h : Tri x y z) (h4 : z ≤ 1000000000) (h0 : 0 ≤ a ∧ a ≤ 2) :
    Calls Tryd.prog 60 #[trip x y z, .int .i64 a] w fun e w' => e = .returned (.tuple #[vT (exF a x y z), .bool (okB (exF a x y z))]) ∧ Below w.heap.size w w' := by
  have : a = 0 ∨ a = 1 ∨ a = 2 := by omega
  rcases this with rfl | rfl | rfl
  · exact exch0 x y z w h h4
  · exact exch1 x y z w h h4
  · by_cases hz : z = 1
    · subst hz
      obtain ⟨rfl, rfl⟩ := Tri.one h
      have k := exchanged2 1 1 1 w (by omega) (by omega) (by omega)
      have e : srt 1 1 (3 * 1 * 1 - 1) = vT (exF 2 1 1 1) := by unfold srt vT; rfl
      rw [e] at k
      exact k
    · have k := exch2 x y z w h h4 (by have := h.1; have := h.2.1; have := h.2.2.1; omega)
      have e : exF 2 x y z = (min x (3 * x * y - z), max x (3 * x * y - z), y) := by simp [exF, hz]
      rw [e]
      have ey : okB (min x (3 * x * y - z), max x (3 * x * y - z), y) = true := by have := h.2.2.1; simp [okB]; omega
      rw [ey]
      exact k
theorem refExch_any (a x y z : Int) (w : World) (h : Tri x y z) (h4 : z ≤ 1000000000) (h0 : 0 ≤ a ∧ a ≤ 2) :
    Calls Tryd.prog 27 #[trip x y z, .int .i64 a] w fun e w' => e = .returned (.tuple #[vT (exF a x y z), .bool (okB (exF a x y z))]) ∧ Below w.heap.size w w' := by
  have : a = 0 ∨ a = 1 ∨ a = 2 := by omega
  rcases this with rfl | rfl | rfl
  · exact refEx0 x y z w h h4
  · exact refEx1 x y z w h h4
  · by_cases hz : z = 1
    · subst hz
      obtain ⟨rfl, rfl⟩ := Tri.one h
      have k := refExchange2 1 1 1 w (by omega) (by omega) (by omega)
      have e : srt 1 1 (3 * 1 * 1 - 1) = vT (exF 2 1 1 1) := by unfold srt vT; rfl
      rw [e] at k
      exact k
    · have k := refEx2 x y z w h h4 (by have := h.1; have := h.2.1; have := h.2.2.1; omega)
      have e : exF 2 x y z = (min x (3 * x * y - z), max x (3 * x * y - z), y) := by simp [exF, hz]
      rw [e]
      have ey : okB (min x (3 * x * y - z), max x (3 * x * y - z), y) = true := by have := h.2.2.1; simp [okB]; omega
      rw [ey]
      exact k

def zeros3 : Value := .agg #[.int .i64 0, .int .i64 0, .int .i64 0]

end Go.Proofs.YtpflmlnkflpbnaaDoor
