import Derived.Test.YtpmamdadcmcbeaaDoorW9
namespace Go.Proofs.YtpmamdadcmcbeaaDoor
open Go.RowKit Go.Sort Cam
set_option linter.unusedVariables false
set_option linter.unusedSimpArgs false

def pickB (a b c : UInt8) : UInt8 := if c.toNat % 2 = 0 then a else b
/-- What 'letters' makes of a string. -/
def lettersOf (a b : UInt8) (n : Nat) (s : ByteArray) : List UInt8 := (s.data.toList.take n).map (pickB a b)

theorem byte_lt (c : UInt8) : (c.toNat : Int) ≤ 255 := by have := c.toNat_lt; omega

set_option maxRecDepth 100000 in
set_option maxHeartbeats 1000000 in
theorem letters_LR (s : ByteArray) (n : Nat) (w : World) (hs : s.size ≤ 140737488351232) (hn : n ≤ 1000) :
    Calls Tryd.prog 37 #[.string s, .string ⟨#[76, 82]⟩, .int .i64 n] w fun e w' => e = .returned (.string ⟨(lettersOf 76 82 n s).toArray⟩) ∧ Below w.heap.size w w' := by
  obtain ⟨i0, hi, hz0, hz1, hz2⟩ := info_parts info5
  have HZ2 : Hid (s.data.toList.length = s.size) := Array.length_toList
  go_enter Tryd.func37, Tryd.ntmps37
  go_wp2
  go_loopw [7, 8] (fun v i wr => ∃ (k : Nat), k ≤ s.size ∧ k ≤ n ∧ i = .int .i64 k ∧ wr.ownsRow w.heap.size 5 1 v k ((lettersOf 76 82 k s).map byteV) ∧ Below w.heap.size w wr) (fun _ i _ => n - (intOf i).toNat)
  case atStart => exact ⟨0, Nat.zero_le _, Nat.zero_le _, rfl, World.ownsRow_nil _ _ _ _, bl_refl _⟩
  case round =>
    obtain ⟨k, hk, hkn, rfl, hown, hb⟩ := hrel
    by_cases hlt : k < s.size
    · by_cases hln : k < n
      · have hkl : k < s.data.toList.length := by have := HZ2.out; omega
        have HE : Hid ((lettersOf 76 82 (k + 1) s).map byteV = (lettersOf 76 82 k s).map byteV ++ [byteV (pickB 76 82 (s[k]'hlt))]) := by
          show _ = _
          unfold lettersOf
          rw [List.take_succ_eq_append_getElem hkl]
          simp only [List.map_append, List.map_cons, List.map_nil]
          rfl
        have hv := byte_lt (s[k]'hlt)
        by_cases hp : (s[k]'hlt).toNat % 2 = 0
        · have p1 : Int.tmod ((s[k]'hlt).toNat : Int) 2 = 0 := by rw [Int.tmod_eq_emod_of_nonneg (by omega)]; omega
          have p2 : ((s[k]'hlt).toNat : Int) % 2 = 0 := by omega
          have HP : Hid (byteV (pickB 76 82 (s[k]'hlt)) = .int .u8 76) := by
            show _ = _
            unfold pickB; rw [if_pos hp]; rfl
          clear hkl hp
          go_wp2_with (at_builtin; refine wpList_append_own _ rfl (.tmp 20) (.tmp 27) _ rfl w.heap.size 5 i0 _ 1 1 Tryd.underlying78 hi hz0 hz1 hz2 rfl (by decide) _ k ((lettersOf 76 82 k s).map byteV) rfl (hown.alloc _) ⟨wr.heap.size, 0, none⟩ 1 1 [.int .u8 76] rfl rfl (cells_new _ _ _) (one_one _ rfl) (by unfold maxLen; omega) (by omega) (by have := hb.size; simp; omega) ?_; intro v3 w3 hown3 hg3 _)
          have hB := bl_grown (bl_alloc hb _) (hown.alloc _) (Nat.le_refl _) hg3
          rw [← HP.out, ← HE.out] at hown3
          clear hown hg3
          go_wp2
          go_roundw
          case rel => exact ⟨k + 1, by omega, by omega, by go_num, hown3, hB⟩
          case measure => simp [intOf]; omega
        · have p1 : Int.tmod ((s[k]'hlt).toNat : Int) 2 = 1 := by rw [Int.tmod_eq_emod_of_nonneg (by omega)]; omega
          have p2 : ((s[k]'hlt).toNat : Int) % 2 = 1 := by omega
          have HP : Hid (byteV (pickB 76 82 (s[k]'hlt)) = .int .u8 82) := by
            show _ = _
            unfold pickB; rw [if_neg hp]; rfl
          clear hkl hp
          go_wp2_with (at_builtin; refine wpList_append_own _ rfl (.tmp 20) (.tmp 27) _ rfl w.heap.size 5 i0 _ 1 1 Tryd.underlying78 hi hz0 hz1 hz2 rfl (by decide) _ k ((lettersOf 76 82 k s).map byteV) rfl (hown.alloc _) ⟨wr.heap.size, 0, none⟩ 1 1 [.int .u8 82] rfl rfl (cells_new _ _ _) (one_one _ rfl) (by unfold maxLen; omega) (by omega) (by have := hb.size; simp; omega) ?_; intro v3 w3 hown3 hg3 _)
          have hB := bl_grown (bl_alloc hb _) (hown.alloc _) (Nat.le_refl _) hg3
          rw [← HP.out, ← HE.out] at hown3
          clear hown hg3
          go_wp2
          go_roundw
          case rel => exact ⟨k + 1, by omega, by omega, by go_num, hown3, hB⟩
          case measure => simp [intOf]; omega
      · have hkn' : k = n := by omega
        have hll : (lettersOf 76 82 k s).length = k := by
          have := HZ2.out; unfold lettersOf; simp only [List.length_map, List.length_take]; omega
        have hcv := own_string w.heap.size _ (lettersOf 76 82 k s) wr (by rw [hll]; exact hown)
        have HK := Lib.hid hkn'
        clear hown hll hkn'
        go_wp2
        go_ret
        exact ⟨by rw [← HK.out]; rfl, hb⟩
    · have hkn' : k = s.size := by omega
      have hll : (lettersOf 76 82 k s).length = k := by
        have := HZ2.out; unfold lettersOf; simp only [List.length_map, List.length_take]; omega
      have hcv := own_string w.heap.size _ (lettersOf 76 82 k s) wr (by rw [hll]; exact hown)
      have HK : Hid (lettersOf 76 82 k s = lettersOf 76 82 n s) := by
        show _ = _
        have := HZ2.out
        unfold lettersOf
        rw [List.take_of_length_le (by omega), List.take_of_length_le (by omega)]
      clear hown hll hkn'
      go_wp2
      go_ret
      exact ⟨by rw [← HK.out]; rfl, hb⟩

set_option maxRecDepth 100000 in
set_option maxHeartbeats 1000000 in
theorem letters_ab (s : ByteArray) (n : Nat) (w : World) (hs : s.size ≤ 140737488351232) (hn : n ≤ 1000) :
    Calls Tryd.prog 37 #[.string s, .string ⟨#[97, 98]⟩, .int .i64 n] w fun e w' => e = .returned (.string ⟨(lettersOf 97 98 n s).toArray⟩) ∧ Below w.heap.size w w' := by
  obtain ⟨i0, hi, hz0, hz1, hz2⟩ := info_parts info5
  have HZ2 : Hid (s.data.toList.length = s.size) := Array.length_toList
  go_enter Tryd.func37, Tryd.ntmps37
  go_wp2
  go_loopw [7, 8] (fun v i wr => ∃ (k : Nat), k ≤ s.size ∧ k ≤ n ∧ i = .int .i64 k ∧ wr.ownsRow w.heap.size 5 1 v k ((lettersOf 97 98 k s).map byteV) ∧ Below w.heap.size w wr) (fun _ i _ => n - (intOf i).toNat)
  case atStart => exact ⟨0, Nat.zero_le _, Nat.zero_le _, rfl, World.ownsRow_nil _ _ _ _, bl_refl _⟩
  case round =>
    obtain ⟨k, hk, hkn, rfl, hown, hb⟩ := hrel
    by_cases hlt : k < s.size
    · by_cases hln : k < n
      · have hkl : k < s.data.toList.length := by have := HZ2.out; omega
        have HE : Hid ((lettersOf 97 98 (k + 1) s).map byteV = (lettersOf 97 98 k s).map byteV ++ [byteV (pickB 97 98 (s[k]'hlt))]) := by
          show _ = _
          unfold lettersOf
          rw [List.take_succ_eq_append_getElem hkl]
          simp only [List.map_append, List.map_cons, List.map_nil]
          rfl
        have hv := byte_lt (s[k]'hlt)
        by_cases hp : (s[k]'hlt).toNat % 2 = 0
        · have p1 : Int.tmod ((s[k]'hlt).toNat : Int) 2 = 0 := by rw [Int.tmod_eq_emod_of_nonneg (by omega)]; omega
          have p2 : ((s[k]'hlt).toNat : Int) % 2 = 0 := by omega
          have HP : Hid (byteV (pickB 97 98 (s[k]'hlt)) = .int .u8 97) := by
            show _ = _
            unfold pickB; rw [if_pos hp]; rfl
          clear hkl hp
          go_wp2_with (at_builtin; refine wpList_append_own _ rfl (.tmp 20) (.tmp 27) _ rfl w.heap.size 5 i0 _ 1 1 Tryd.underlying78 hi hz0 hz1 hz2 rfl (by decide) _ k ((lettersOf 97 98 k s).map byteV) rfl (hown.alloc _) ⟨wr.heap.size, 0, none⟩ 1 1 [.int .u8 97] rfl rfl (cells_new _ _ _) (one_one _ rfl) (by unfold maxLen; omega) (by omega) (by have := hb.size; simp; omega) ?_; intro v3 w3 hown3 hg3 _)
          have hB := bl_grown (bl_alloc hb _) (hown.alloc _) (Nat.le_refl _) hg3
          rw [← HP.out, ← HE.out] at hown3
          clear hown hg3
          go_wp2
          go_roundw
          case rel => exact ⟨k + 1, by omega, by omega, by go_num, hown3, hB⟩
          case measure => simp [intOf]; omega
        · have p1 : Int.tmod ((s[k]'hlt).toNat : Int) 2 = 1 := by rw [Int.tmod_eq_emod_of_nonneg (by omega)]; omega
          have p2 : ((s[k]'hlt).toNat : Int) % 2 = 1 := by omega
          have HP : Hid (byteV (pickB 97 98 (s[k]'hlt)) = .int .u8 98) := by
            show _ = _
            unfold pickB; rw [if_neg hp]; rfl
          clear hkl hp
          go_wp2_with (at_builtin; refine wpList_append_own _ rfl (.tmp 20) (.tmp 27) _ rfl w.heap.size 5 i0 _ 1 1 Tryd.underlying78 hi hz0 hz1 hz2 rfl (by decide) _ k ((lettersOf 97 98 k s).map byteV) rfl (hown.alloc _) ⟨wr.heap.size, 0, none⟩ 1 1 [.int .u8 98] rfl rfl (cells_new _ _ _) (one_one _ rfl) (by unfold maxLen; omega) (by omega) (by have := hb.size; simp; omega) ?_; intro v3 w3 hown3 hg3 _)
          have hB := bl_grown (bl_alloc hb _) (hown.alloc _) (Nat.le_refl _) hg3
          rw [← HP.out, ← HE.out] at hown3
          clear hown hg3
          go_wp2
          go_roundw
          case rel => exact ⟨k + 1, by omega, by omega, by go_num, hown3, hB⟩
          case measure => simp [intOf]; omega
      · have hkn' : k = n := by omega
        have hll : (lettersOf 97 98 k s).length = k := by
          have := HZ2.out; unfold lettersOf; simp only [List.length_map, List.length_take]; omega
        have hcv := own_string w.heap.size _ (lettersOf 97 98 k s) wr (by rw [hll]; exact hown)
        have HK := Lib.hid hkn'
        clear hown hll hkn'
        go_wp2
        go_ret
        exact ⟨by rw [← HK.out]; rfl, hb⟩
    · have hkn' : k = s.size := by omega
      have hll : (lettersOf 97 98 k s).length = k := by
        have := HZ2.out; unfold lettersOf; simp only [List.length_map, List.length_take]; omega
      have hcv := own_string w.heap.size _ (lettersOf 97 98 k s) wr (by rw [hll]; exact hown)
      have HK : Hid (lettersOf 97 98 k s = lettersOf 97 98 n s) := by
        show _ = _
        have := HZ2.out
        unfold lettersOf
        rw [List.take_of_length_le (by omega), List.take_of_length_le (by omega)]
      clear hown hll hkn'
      go_wp2
      go_ret
      exact ⟨by rw [← HK.out]; rfl, hb⟩
end Go.Proofs.YtpmamdadcmcbeaaDoor
