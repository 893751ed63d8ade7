import Derived.Test.YtpmamdadcmcbeaaDoorW28
import Derived.Test.YtpmamdadcmcbeaaDoorW29
import Derived.Test.YtpmamdadcmcbeaaDoorW24
import Derived.Test.YtpmamdadcmcbeaaDoorW19
namespace Go.Proofs.YtpmamdadcmcbeaaDoor
open Go.RowKit Go.Sort Cam
set_option linter.unusedVariables false
set_option linter.unusedSimpArgs false

theorem followF_tri : ∀ (l : List UInt8) {x y z p q r : Int}, Tri x y z → z ≤ 1000000000 → followF l (x, y, z) = some (p, q, r) → Tri p q r ∧ r ≤ 1000000000 ∧ z ≤ r
  | [], x, y, z, p, q, r, h, h4, e => by
    simp only [followF, Option.some.injEq, Prod.mk.injEq] at e
    obtain ⟨rfl, rfl, rfl⟩ := e
    exact ⟨h, h4, Int.le_refl _⟩
  | c :: l, x, y, z, p, q, r, h, h4, e => by
    obtain ⟨a, b, d, hs, ht⟩ := stepF_tri (c := c) h
    rw [followF, hs] at e
    split at e
    · rename_i hk
      have hd : d ≤ 1000000000 := by simpa [okB] using hk
      have := followF_tri l ht hd e
      have hzd : z ≤ d := by
        unfold stepF exF at hs
        by_cases hc : c = 82
        · simp only [hc, if_true, if_neg (show ¬ (1 : Int) = 0 by decide), Prod.mk.injEq] at hs
          obtain ⟨rfl, rfl, rfl⟩ := hs
          exact ht.2.2.1
        · simp only [hc, if_false, if_true, Prod.mk.injEq] at hs
          obtain ⟨rfl, rfl, rfl⟩ := hs
          exact ht.2.2.1
      exact ⟨this.1, this.2.1, by omega⟩
    · cases e

theorem optV_agg (o : Option T3) : ∃ x y z : Int, optV o = .agg #[.int .i64 x, .int .i64 y, .int .i64 z] := by
  cases o with
  | none => exact ⟨0, 0, 0, rfl⟩
  | some t => exact ⟨t.1, t.2.1, t.2.2, rfl⟩

end Go.Proofs.YtpmamdadcmcbeaaDoor
