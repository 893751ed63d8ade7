/-
  Index: how many words come before one.
-/
import Derived.Test.YtnamafakjkcmjaaT45
import Derived.Test.YtnamafakjkcmjaaMI
namespace Go.Proofs.Ytnamafakjkcmjaa
open Go.RowKit Go.Shelf
set_option linter.unusedVariables false
set_option linter.unusedSimpArgs false
attribute [local go_sem] Oper.semAt_some

set_option maxRecDepth 100000 in
set_option maxHeartbeats 4000000 in
theorem Index_no (q : Int) (v : Value) (ss : List ByteArray) (wd : ByteArray) (w : World) (hv : StrsAt w v ss) (hset : setB q ss = false ∨ 60 < wd.size ∨ (setB q ss = true ∧ lettB q.toNat (sb wd) = false)) :
    Calls Try.prog 16 #[.int .i64 q, v, .string wd] w fun e w' => e = .returned (.tuple #[.int .i64 0, .int .i64 2]) ∧ Below w.heap.size w w' := by
  have IS := Lib.hid fun W h => isSet_any q v ss W h
  obtain ⟨W0, hW0⟩ : ∃ W0, W0 = w.alloc (.cells #[.string wd] 9) := ⟨_, rfl⟩
  have hb0 : Below w.heap.size w W0 := by rw [hW0]; exact bl_alloc (bl_refl w) _
  have HV := Lib.hid (hv.kept hb0)
  have hx : Boxed W0 w.heap.size 9 (.string wd) := by rw [hW0]; exact Boxed.new w _ _
  have HX : Hid (∀ W', Below W0.heap.size W0 W' → W'.cell? ⟨w.heap.size, 0, none⟩ = some (.string wd)) := Lib.hid fun W' hb => (hb.cell (p := ⟨w.heap.size, 0, none⟩) hx.lt).trans hx.cell
  have hlt := hx.lt
  have HB0 := Lib.hid hb0
  have HW0 := Lib.hid hW0
  clear hv hx hb0 hW0
  cases hs : setB q ss with
  | false =>
    rw [hs] at IS
    clear hset hs
    go_enter Try.func16, Try.ntmps16
    go_wp2_with fail
    rw [← HW0.out]
    refine (IS.out _ HV.out).mono ?_
    rintro e w1 ⟨rfl, r1⟩
    have HB1 := Lib.hid (bl_then HB0.out r1)
    have c1 := HX.out _ r1
    clear r1
    go_wp2_with fail
    go_ret2
    exact ⟨rfl, HB1.out⟩
  | true =>
    rw [hs] at IS
    obtain ⟨Z, hZ⟩ : ∃ Z, Z = wd.size := ⟨_, rfl⟩
    have hsz : wd.size = Z := hZ.symm
    rw [← hZ] at hset
    clear hZ
    by_cases hn : 60 < Z
    · have hn1 : (60 : Int) < (Z : Int) := by omega
      have hn2 : decide ((60 : Int) < (Z : Int)) = true := decide_eq_true hn1
      clear hset hs hn
      go_enter Try.func16, Try.ntmps16
      go_wp2_with fail
      rw [← HW0.out]
      refine (IS.out _ HV.out).mono ?_
      rintro e w1 ⟨rfl, r1⟩
      have HB1 := Lib.hid (bl_then HB0.out r1)
      have c1 := HX.out _ r1
      have lt1 := Nat.lt_of_lt_of_le hlt r1.size
      clear r1
      go_wp2_with fail
      go_ret2
      exact ⟨rfl, HB1.out⟩
    · have hq := (setB_parts hs).1
      obtain ⟨p, rfl⟩ : ∃ p : Nat, q = p := ⟨q.toNat, by omega⟩
      have IW := Lib.hid fun s W => isWord_any p (by omega) s W
      have hlb : lettB p (sb wd) = false := by
        rcases hset with h | h | h
        · rw [hs] at h; cases h
        · omega
        · exact h.2
      have IW1 : Hid (∀ W, Calls Try.prog 39 #[.int .i64 (p : Int), .string wd] W fun e w' => e = .returned (.bool false) ∧ Below W.heap.size W w') := fun W => by
        have := IW.out wd W
        rw [hlb] at this
        exact this
      have hn1 : ¬ (60 : Int) < (Z : Int) := by omega
      have hn2 : decide ((60 : Int) < (Z : Int)) = false := decide_eq_false hn1
      clear hset hs hn IW hlb
      go_enter Try.func16, Try.ntmps16
      go_wp2_with fail
      rw [← HW0.out]
      refine (IS.out _ HV.out).mono ?_
      rintro e w1 ⟨rfl, r1⟩
      have HB1 := Lib.hid (bl_then HB0.out r1)
      have c1 := HX.out _ r1
      have lt1 := Nat.lt_of_lt_of_le hlt r1.size
      clear r1
      go_wp2_with fail
      refine (IW1.out _).mono ?_
      rintro e w2 ⟨rfl, r2⟩
      have HB2 := Lib.hid (bl_then HB1.out r2)
      clear r2
      go_wp2_with fail
      go_ret2
      exact ⟨rfl, HB2.out⟩
end Go.Proofs.Ytnamafakjkcmjaa
