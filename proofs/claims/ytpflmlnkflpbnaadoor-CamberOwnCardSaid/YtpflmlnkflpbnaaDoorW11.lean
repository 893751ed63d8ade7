import Derived.Test.YtpflmlnkflpbnaaDoorW10
import Derived.Test.YtpflmlnkflpbnaaDoorLib5
namespace Go.Proofs.YtpflmlnkflpbnaaDoor
open Go.RowKit Go.Sort Cam
set_option linter.unusedVariables false

/-- What Word answers. -/
def wordA (s : ByteArray) : ByteArray := if isPathB s then if (wordB s).size ≤ 40 then wordB s else ⟨#[]⟩ else ⟨#[]⟩
def wordE (s : ByteArray) : Int := if isPathB s then if (wordB s).size ≤ 40 then 0 else 5 else 2

theorem Word_any (s : ByteArray) (w : World) (hs : s.size ≤ 61) :
    Calls Tryd.prog 21 #[.string s] w fun e w' => e = .returned (.tuple #[.string (wordA s), .int .i64 (wordE s)]) ∧ Below w.heap.size w w' := by
  have P := Lib.hid fun W => isPath_any s W (by omega)
  have G := Lib.hid fun W => growS_any s W hs
  by_cases hp : isPathB s = true
  · by_cases hl : (wordB s).size ≤ 40
    · have ea : wordA s = wordB s := by simp [wordA, hp, hl]
      have ee : wordE s = 0 := by simp [wordE, hp, hl]
      rw [ea, ee]
      rw [hp] at P
      rw [show decide ((wordB s).size ≤ 40) = true from by simp [hl]] at G
      clear ea ee hp hl
      generalize wordB s = W at *
      go_enter Tryd.func21, Tryd.ntmps21
      go_wp2_with fail
      refine (P.out _).mono ?_
      rintro e w1 ⟨rfl, rfl⟩
      go_wp2_with fail
      refine (G.out _).mono ?_
      rintro e w1 ⟨rfl, hb⟩
      go_wp2_with fail
      go_ret2
      exact ⟨rfl, hb⟩
    · have ea : wordA s = ⟨#[]⟩ := by simp [wordA, hp, hl]
      have ee : wordE s = 5 := by simp [wordE, hp, hl]
      rw [ea, ee]
      rw [hp] at P
      rw [show decide ((wordB s).size ≤ 40) = false from by simp [hl]] at G
      clear ea ee hp hl
      generalize wordB s = W at *
      go_enter Tryd.func21, Tryd.ntmps21
      go_wp2_with fail
      refine (P.out _).mono ?_
      rintro e w1 ⟨rfl, rfl⟩
      go_wp2_with fail
      refine (G.out _).mono ?_
      rintro e w1 ⟨rfl, hb⟩
      go_wp2_with fail
      go_ret2
      exact ⟨rfl, hb⟩
  · have hp : isPathB s = false := by simpa using hp
    have ea : wordA s = ⟨#[]⟩ := by simp [wordA, hp]
    have ee : wordE s = 2 := by simp [wordE, hp]
    rw [ea, ee]
    rw [hp] at P
    clear ea ee hp
    go_enter Tryd.func21, Tryd.ntmps21
    go_wp2_with fail
    refine (P.out _).mono ?_
    rintro e w1 ⟨rfl, rfl⟩
    go_wp2_with fail
    go_ret2
    exact ⟨rfl, bl_refl _⟩

/-! The matrices of the letters: a map that is made anew at each letter. -/
def mA : List Value := [.int .i64 2, .int .i64 1, .int .i64 1, .int .i64 1]
def mB : List Value := [.int .i64 5, .int .i64 2, .int .i64 2, .int .i64 1]
theorem letters_any (w : World) :
    Calls Tryd.prog 40 #[] w fun e w' => e = .returned (.map (some w.heap.size)) ∧ w' = w.alloc (.map #[⟨.int .u8 97, .agg mA.toArray, 0⟩, ⟨.int .u8 98, .agg mB.toArray, 1⟩] 2) := by
  have hmm := @run_makeMap Tryd.prog
  have h1 := upd_first Tryd.underlying73 Tryd.underlying5 w 97 (by decide) (.agg mA.toArray)
  have h2 := upd_second Tryd.underlying73 Tryd.underlying5 w 97 98 (by decide) (by decide) (.agg mA.toArray) (.agg mB.toArray)
  have H := Lib.hid h1
  have H2 := Lib.hid h2
  unfold mA at h1
  unfold mA mB at h2
  go_enter Tryd.func40, Tryd.ntmps40
  go_wp2_with fail
  go_ret
  exact ⟨rfl, rfl⟩
end Go.Proofs.YtpflmlnkflpbnaaDoor
