import Derived.Test.YtebpeomonglkbaaDoorW17
namespace Go.Proofs.YtebpeomonglkbaaDoor
open Go.RowKit Go.Sort Cam
set_option linter.unusedVariables false

def twoB (a b : UInt8) (s : ByteArray) : Bool := s.data.toList.all fun c => c == a || c == b

set_option maxRecDepth 100000 in
set_option maxHeartbeats 1000000 in
theorem Letters_any (s : ByteArray) (a b : UInt8) (w : World) (hs : s.size ≤ 140737488351232) :
    Calls Tryd.prog 59 #[.string s, .int .u8 (a.toNat : Int), .int .u8 (b.toNat : Int)] w fun e w' => e = .returned (.bool (twoB a b s)) ∧ w = w' := by
  have hsz : s.data.toList.length = s.size := Array.length_toList
  obtain ⟨A, hA⟩ : ∃ A : Int, (a.toNat : Int) = A := ⟨_, rfl⟩
  obtain ⟨B, hB⟩ : ∃ B : Int, (b.toNat : Int) = B := ⟨_, rfl⟩
  have hA' : 0 ≤ A ∧ A ≤ 255 := by have := a.toNat_lt; omega
  have hB' : 0 ≤ B ∧ B ≤ 255 := by have := b.toNat_lt; omega
  have keyA : Hid (∀ c : UInt8, (c.toNat : Int) = A ↔ c = a) := by
    intro c
    constructor
    · intro h; exact UInt8.toNat_inj.1 (by omega)
    · rintro rfl; exact hA
  have keyB : Hid (∀ c : UInt8, (c.toNat : Int) = B ↔ c = b) := by
    intro c
    constructor
    · intro h; exact UInt8.toNat_inj.1 (by omega)
    · rintro rfl; exact hB
  rw [hA, hB]
  have HL := Lib.hid hsz
  clear hA hB hsz
  go_enter Tryd.func59, Tryd.ntmps59
  go_wp2
  go_loopw [7] (fun i wr => ∃ k : Nat, k ≤ s.size ∧ i = .int .i64 k ∧ wr = w ∧ Hid ((s.data.toList.take k).all (fun c => c == a || c == b) = true)) (fun i _ => s.size - (intOf i).toNat)
  case atStart => exact ⟨0, Nat.zero_le _, rfl, rfl, rfl⟩
  case round =>
    obtain ⟨k, hk, rfl, rfl, HT⟩ := hrel
    by_cases hlt : k < s.size
    · have hkl : k < s.data.toList.length := by have := HL.out; omega
      have E1 : Hid (s.data.toList.take (k + 1) = s.data.toList.take k ++ [s[k]'hlt]) := by rw [List.take_succ_eq_append_getElem hkl]; rfl
      have HM : Hid (s[k]'hlt ∈ s.data.toList) := List.getElem_mem hkl
      by_cases h1 : ((s[k]'hlt).toNat : Int) = A
      · have HN : Hid ((s.data.toList.take (k + 1)).all (fun c => c == a || c == b) = true) := by
          show List.all _ _ = true
          rw [E1.out, List.all_append, HT.out, (keyA.out _).1 h1]; simp
        clear E1 HT HM hkl
        go_wp2
        go_roundw
        case rel => exact ⟨k + 1, by omega, by go_num, trivial, HN⟩
        case measure => simp [intOf]; omega
      · by_cases h2 : ((s[k]'hlt).toNat : Int) = B
        · have HN : Hid ((s.data.toList.take (k + 1)).all (fun c => c == a || c == b) = true) := by
            show List.all _ _ = true
            rw [E1.out, List.all_append, HT.out, (keyB.out _).1 h2]; simp
          clear E1 HT HM hkl
          go_wp2
          go_roundw
          case rel => exact ⟨k + 1, by omega, by go_num, trivial, HN⟩
          case measure => simp [intOf]; omega
        · have HF : Hid (twoB a b s = false) := by
            have n1 : s[k]'hlt ≠ a := fun e => h1 ((keyA.out _).2 e)
            have n2 : s[k]'hlt ≠ b := fun e => h2 ((keyB.out _).2 e)
            have : ¬ twoB a b s = true := fun h => by
              have := List.all_eq_true.1 h _ HM.out
              simp [n1, n2] at this
            exact Lib.hid (by simpa using this)
          have g1 : (((s[k]'hlt).toNat : Int) != A) = true := by simpa using h1
          have g2 : (((s[k]'hlt).toNat : Int) != B) = true := by simpa using h2
          clear E1 HT HM hkl
          go_wp2
          go_ret
          exact ⟨ret_bool HF.out.symm, rfl⟩
    · have HF : Hid (twoB a b s = true) := by
        have h1 := HT.out
        rw [List.take_of_length_le (by have := HL.out; omega)] at h1
        exact h1
      clear HT
      go_wp2
      go_ret
      exact ⟨ret_bool HF.out.symm, rfl⟩

theorem IsWord_any (s : ByteArray) (w : World) (hs : s.size ≤ 140737488351232) :
    Calls Tryd.prog 29 #[.string s] w fun e w' => e = .returned (.bool (isWordB s)) ∧ w = w' := by
  have L : Hid (∀ W, Calls Tryd.prog 59 #[.string s, .int .u8 97, .int .u8 98] W fun e w' => e = .returned (.bool (twoB 97 98 s)) ∧ W = w') := fun W => Letters_any s 97 98 W hs
  have hB : Hid (isWordB s = (decide (s.size ≤ 40) && twoB 97 98 s)) := rfl
  generalize twoB 97 98 s = t at *
  by_cases h6 : s.size ≤ 40
  · rw [show decide (s.size ≤ 40) = true from by simp [h6], Bool.true_and] at hB
    generalize isWordB s = r at *
    go_enter Tryd.func29, Tryd.ntmps29
    go_wp2_with fail
    refine (L.out _).mono ?_
    rintro e w1 ⟨rfl, rfl⟩
    go_wp2
    go_ret
    exact ⟨ret_bool hB.out.symm, rfl⟩
  · rw [show decide (s.size ≤ 40) = false from by simp; omega, Bool.false_and] at hB
    generalize isWordB s = r at *
    go_enter Tryd.func29, Tryd.ntmps29
    go_wp2
    go_ret
    exact ⟨ret_bool hB.out.symm, rfl⟩
theorem IsPath_any (s : ByteArray) (w : World) (hs : s.size ≤ 140737488351232) :
    Calls Tryd.prog 42 #[.string s] w fun e w' => e = .returned (.bool (isPathB s)) ∧ w = w' := by
  have L : Hid (∀ W, Calls Tryd.prog 59 #[.string s, .int .u8 76, .int .u8 82] W fun e w' => e = .returned (.bool (twoB 76 82 s)) ∧ W = w') := fun W => Letters_any s 76 82 W hs
  have hB : Hid (isPathB s = (decide (s.size ≤ 60) && twoB 76 82 s)) := rfl
  generalize twoB 76 82 s = t at *
  by_cases h6 : s.size ≤ 60
  · rw [show decide (s.size ≤ 60) = true from by simp [h6], Bool.true_and] at hB
    generalize isPathB s = r at *
    go_enter Tryd.func42, Tryd.ntmps42
    go_wp2_with fail
    refine (L.out _).mono ?_
    rintro e w1 ⟨rfl, rfl⟩
    go_wp2
    go_ret
    exact ⟨ret_bool hB.out.symm, rfl⟩
  · rw [show decide (s.size ≤ 60) = false from by simp; omega, Bool.false_and] at hB
    generalize isPathB s = r at *
    go_enter Tryd.func42, Tryd.ntmps42
    go_wp2
    go_ret
    exact ⟨ret_bool hB.out.symm, rfl⟩
end Go.Proofs.YtebpeomonglkbaaDoor
