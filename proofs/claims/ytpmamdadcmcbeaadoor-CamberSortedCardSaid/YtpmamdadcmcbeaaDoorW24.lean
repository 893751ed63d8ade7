import Derived.Test.YtpmamdadcmcbeaaDoorW23
namespace Go.Proofs.YtpmamdadcmcbeaaDoor
open Go.RowKit Go.Sort Cam
set_option linter.unusedVariables false

def cutB (s : ByteArray) : ByteArray := s.extract 0 (min (s.size : Int) 61).toNat
theorem cutB_size (s : ByteArray) : (cutB s).size ≤ 61 := by
  unfold cutB; rw [ByteArray.size_extract]; omega
set_option maxRecDepth 100000 in
set_option maxHeartbeats 1000000 in
theorem Matrix_no (s : ByteArray) (w : World) (hs : s.size ≤ 61) (h : isWordB s = false) :
    Calls Tryd.prog 33 #[.string s] w fun e w' => e = .returned (.tuple #[zeros4, .int .i64 2]) ∧ Below w.heap.size w w' := by
  have hsz : s.data.toList.length = s.size := Array.length_toList
  obtain ⟨c1, c2⟩ := count_two 97 98 (by decide) s.data.toList
  have L := Lib.hid fun W => Tryd.strings_Count_one s 97 W
  have R := Lib.hid fun W => Tryd.strings_Count_one s 98 W
  unfold Lib.countByte at L R
  have hl1 : s.data.toList.count 97 ≤ 140737488351232 := by omega
  have hl2 : s.data.toList.count 98 ≤ 140737488351232 := by omega
  have hC : s.data.toList.count 97 + s.data.toList.count 98 = s.size ↔ (s.data.toList.all fun c => c == 97 || c == 98) = true := by rw [← hsz]; exact c2
  unfold isWordB at h
  by_cases h6 : s.size ≤ 40
  · have hne : ¬ (s.data.toList.count 97 + s.data.toList.count 98 = s.size) := by
      intro e
      rw [hC.1 e, show decide (s.size ≤ 40) = true from by simp [h6]] at h
      cases h
    clear hsz c1 c2 hC h
    generalize s.data.toList.count 97 = m at *
    generalize s.data.toList.count 98 = n at *
    have hn2 : ((m : Int) + n != s.size) = true := by simp; omega
    have hn3 : ¬ ((m : Int) + n = s.size) := by omega
    unfold zeros4
    go_enter Tryd.func33, Tryd.ntmps33
    go_wp2_with fail
    refine (L.out _).mono ?_
    rintro e w1 ⟨rfl, rfl⟩
    go_wp2_with fail
    refine (R.out _).mono ?_
    rintro e w1 ⟨rfl, rfl⟩
    go_wp2_with fail
    exact bodyPost_ret (res_cell_tmp (g := w.heap.size) Tryd.results33 rfl ((Whole.new w 62 #[.int .i64 0, .int .i64 0, .int .i64 0, .int .i64 0]).load Tryd.underlying62 rfl arr37)) rfl ⟨rfl, bl_alloc (bl_refl _) _⟩
  · clear hsz c1 c2 hC h
    unfold zeros4
    go_enter Tryd.func33, Tryd.ntmps33
    go_wp2_with fail
    exact bodyPost_ret (res_cell_tmp (g := w.heap.size) Tryd.results33 rfl ((Whole.new w 62 #[.int .i64 0, .int .i64 0, .int .i64 0, .int .i64 0]).load Tryd.underlying62 rfl arr37)) rfl ⟨rfl, bl_alloc (bl_refl _) _⟩
end Go.Proofs.YtpmamdadcmcbeaaDoor
