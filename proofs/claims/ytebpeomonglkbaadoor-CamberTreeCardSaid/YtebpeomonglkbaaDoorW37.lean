import Derived.Test.YtebpeomonglkbaaDoorW31
namespace Go.Proofs.YtebpeomonglkbaaDoor
open Go.RowKit Go.Sort Cam
set_option linter.unusedVariables false
set_option linter.unusedSimpArgs false

/-- Beyond 2 no two numbers of a solution are equal. -/
theorem Tri.ne_xy {x y z : Int} (h : Tri x y z) (h5 : 3 ≤ z) : x < y := by
  rcases Int.lt_or_le x y with a | a
  · exact a
  · have e : x = y := by have := h.2.1; omega
    subst e
    have g := (Tri.cop z.toNat h (Nat.le_refl _)).1
    rw [Int.gcd_self] at g
    have h1 := h.1
    have : x = 1 := by omega
    subst this
    have := h.2.2.2
    rcases Int.lt_or_le 3 z with b | b
    · have := Int.mul_le_mul_of_nonneg_right (show 4 ≤ z from b) (show 0 ≤ z by omega)
      omega
    · have : z = 3 := by omega
      subst this
      omega
theorem path_left {x y z : Int} (h : Tri x y z) (h5 : 5 ≤ z) : pathOf y z (3 * y * z - x) = pathOf x y z ++ [76] := by
  have l := h.left
  have hz : z < 3 * y * z - x := l.lt_of_two (by have := l.2.2.1; omega)
  have e : 3 * y * z - (3 * y * z - x) = x := by omega
  have hxy := h.2.1
  rw [l.path_step (by omega), e]
  have e1 : min y x = x := by omega
  have e2 : max y x = y := by omega
  rw [e1, e2]
  unfold letterOf
  rw [e, if_pos hxy]
theorem path_right {x y z : Int} (h : Tri x y z) (h5 : 5 ≤ z) : pathOf x z (3 * x * z - y) = pathOf x y z ++ [82] := by
  have l := h.right
  have hz : z < 3 * x * z - y := l.lt_of_two (by have := l.2.2.1; omega)
  have e : 3 * x * z - (3 * x * z - y) = y := by omega
  have hxy := Tri.ne_xy h (by omega)
  rw [l.path_step (by omega), e]
  have e1 : min x y = x := by omega
  have e2 : max x y = y := by omega
  rw [e1, e2]
  unfold letterOf
  rw [e, if_neg (by omega)]

theorem path_followF : ∀ (l : List UInt8) {x y z p q r : Int}, Tri x y z → z ≤ 1000000000 → 5 ≤ z → (l.all fun c => c == 76 || c == 82) = true → followF l (x, y, z) = some (p, q, r) → pathOf p q r = pathOf x y z ++ l
  | [], x, y, z, p, q, r, h, h4, h5, hl, e => by
    simp only [followF, Option.some.injEq, Prod.mk.injEq] at e
    obtain ⟨rfl, rfl, rfl⟩ := e
    simp
  | c :: l, x, y, z, p, q, r, h, h4, h5, hl, e => by
    rw [List.all_cons, Bool.and_eq_true] at hl
    obtain ⟨hc, hl⟩ := hl
    have hc : c = 76 ∨ c = 82 := by simpa using hc
    rw [followF] at e
    split at e
    · rename_i hk
      rcases hc with rfl | rfl
      · have hs : stepF 76 (x, y, z) = (y, z, 3 * y * z - x) := by simp [stepF, exF]
        rw [hs] at e hk
        have hd : 3 * y * z - x ≤ 1000000000 := by simpa [okB] using hk
        have := h.left.2.2.1
        rw [path_followF l h.left hd (by omega) hl e, path_left h h5]; simp
      · have hs : stepF 82 (x, y, z) = (x, z, 3 * x * z - y) := by simp [stepF, exF]
        rw [hs] at e hk
        have hd : 3 * x * z - y ≤ 1000000000 := by simpa [okB] using hk
        have := h.right.2.2.1
        rw [path_followF l h.right hd (by omega) hl e, path_right h h5]; simp
    · cases e

theorem path_of_follow {t : ByteArray} {x y z : Int} (hp : isPathB t = true) (ho : followO t = some (x, y, z)) : pathOf x y z = t.data.toList := by
  unfold isPathB at hp
  rw [Bool.and_eq_true] at hp
  have := path_followF _ tri125 (by omega) (by omega) hp.2 ho
  rw [this, path_first (by omega), List.nil_append]
theorem pathV_of_follow {t : ByteArray} {x y z : Int} (hp : isPathB t = true) (ho : followO t = some (x, y, z)) : pathV x y z = .string t := by
  unfold pathV
  rw [path_of_follow hp ho]
end Go.Proofs.YtebpeomonglkbaaDoor
