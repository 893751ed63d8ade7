import Derived.Test.YtpmamdadcmcbeaaDoorW30
namespace Go.Proofs.YtpmamdadcmcbeaaDoor
open Go.RowKit Go.Sort Cam
set_option linter.unusedVariables false
set_option linter.unusedSimpArgs false

def dropB (t : ByteArray) : ByteArray := t.extract 0 (t.size - 1)
theorem dropB_path {t : ByteArray} (h : isPathB t = true) : isPathB (dropB t) = true := by
  unfold isPathB at *
  simp only [Bool.and_eq_true, decide_eq_true_eq] at *
  obtain ⟨h1, h2⟩ := h
  have e : (dropB t).data.toList = t.data.toList.take (t.size - 1) := by
    unfold dropB; rw [ByteArray.data_extract, Array.toList_extract]; simp [List.extract]
  refine ⟨by unfold dropB; rw [ByteArray.size_extract]; omega, ?_⟩
  rw [e, List.all_eq_true] at *
  exact fun x hx => h2 x (List.mem_of_mem_take hx)
theorem dropB_size {t : ByteArray} (h : 0 < t.size) : (dropB t).size < t.size := by
  unfold dropB; rw [ByteArray.size_extract]; omega
theorem follow_empty {t : ByteArray} (h : t.size = 0) : followO t = some (1, 2, 5) := by
  have e : t.data.toList.length = t.size := Array.length_toList
  have : t.data.toList = [] := List.eq_nil_of_length_eq_zero (by omega)
  unfold followO; rw [this]; rfl
theorem lettersOf_path (s : ByteArray) : isPathB ⟨(lettersOf 76 82 60 s).toArray⟩ = true := by
  unfold isPathB
  simp only [Bool.and_eq_true, decide_eq_true_eq]
  constructor
  · show (lettersOf 76 82 60 s).toArray.size ≤ 60
    simp [lettersOf]; omega
  · rw [List.all_eq_true]
    intro x hx
    simp only [lettersOf, List.mem_map] at hx
    obtain ⟨c, _, rfl⟩ := hx
    unfold pickB; split <;> rfl

def strLen : Value → Nat
  | .string t => t.size
  | _ => 0
theorem path_size {t : ByteArray} (h : isPathB t = true) : t.size ≤ 60 := by
  unfold isPathB at h; simp at h; omega
theorem res_tmp_cell {w : World} {g : Nat} {P : Program} {fn : Func} {p u : Tmp} {ty : TypeId} {tmps : Array Value} {v : Value} (h : fn.results = #[.tmp u, .cell p ty]) (hp : tmps.getD p undef = .pointer (some ⟨g, 0, none⟩))
    (hl : (loadVar ty ⟨g, 0, none⟩).run P w = .ok v w) : (results fn tmps).run P w = .ok (.tuple #[tmps.getD u undef, v]) w := by
  have hp' : tmps[p]?.getD undef = .pointer (some ⟨g, 0, none⟩) := by simpa using hp
  simp [results, h, hp', asAddr, hl, Result.andThen]
set_option maxRecDepth 100000 in
set_option maxHeartbeats 1000000 in
theorem tame_any (s : ByteArray) (w : World) (hs : s.size ≤ 140737488351232) :
    Calls Tryd.prog 16 #[.string s] w fun e w' => ∃ (t : ByteArray) (x y z : Int), e = .returned (.tuple #[.string t, trip x y z]) ∧ (isPathB t = true ∧ followO t = some (x, y, z)) ∧ Below w.heap.size w w' := by
  have L := Lib.hid fun W => letters_LR s 60 W hs (by omega)
  have R := Lib.hid fun t W h => refFollow_path t W h
  have hp := lettersOf_path s
  generalize (⟨(lettersOf 76 82 60 s).toArray⟩ : ByteArray) = t0 at *
  obtain ⟨x0, y0, z0, hv0⟩ := optV_agg (followO t0)
  have R0 := Lib.hid fun W => R.out t0 W hp
  rw [hv0] at R0
  have HP := Lib.hid hp
  have HV0 := Lib.hid hv0
  clear hp hv0
  obtain ⟨ok0, hok0⟩ : ∃ ok, ok = (followO t0).isSome := ⟨_, rfl⟩
  rw [← hok0] at R0
  have HK0 := Lib.hid hok0
  clear hok0
  go_enter Tryd.func16, Tryd.ntmps16
  go_wp2_with fail
  refine (L.out _).mono ?_
  rintro e w1 ⟨rfl, hb1⟩
  have hbA := bl_then (bl_alloc (bl_refl w) _) hb1
  have hR1 := (Whole.new w _ _).kept hb1
  go_wp2_with fail
  refine (R0.out _).mono ?_
  rintro e w2 ⟨rfl, hb2⟩
  have hbB := bl_then hbA hb2
  have hR2 := hR1.kept hb2
  go_wp2_with fail
  have HN2 : Hid (w.heap.size ≤ w2.heap.size) := hbB.size
  have HN : Hid (w.heap.size ≠ w2.heap.size) := by have := hR2.lt; exact Nat.ne_of_lt this
  go_loopw [4, 6] (fun i o wr => ∃ (t : ByteArray) (x y z : Int), i = .string t ∧ o = .bool (followO t).isSome ∧ t.size ≤ 60 ∧ Hid (isPathB t = true) ∧ Hid (optV (followO t) = .agg #[.int .i64 x, .int .i64 y, .int .i64 z]) ∧
    Whole wr w.heap.size 33 #[.int .i64 0, .int .i64 0, .int .i64 0] ∧ Whole wr w2.heap.size 33 #[.int .i64 x, .int .i64 y, .int .i64 z] ∧ Below w.heap.size w wr) (fun i _ _ => strLen i)
  case atStart => exact ⟨t0, x0, y0, z0, rfl, by rw [HK0.out], path_size HP.out, HP, HV0, hR2.alloc _, Whole.new _ _ _, bl_alloc hbB _⟩
  case round =>
    obtain ⟨t, x, y, z, rfl, rfl, hts, hp, hv, hR, hM, hb⟩ := hrel
    have k0 : wr.cell? ⟨w2.heap.size, 0, none⟩ = some (.int .i64 x) := (hM.cell 0).trans rfl
    have k1 : wr.cell? ⟨w2.heap.size, 1, none⟩ = some (.int .i64 y) := (hM.cell 1).trans rfl
    have k2 : wr.cell? ⟨w2.heap.size, 2, none⟩ = some (.int .i64 z) := (hM.cell 2).trans rfl
    have r0 : wr.cell? ⟨w.heap.size, 0, none⟩ = some (.int .i64 0) := (hR.cell 0).trans rfl
    have r1 : wr.cell? ⟨w.heap.size, 1, none⟩ = some (.int .i64 0) := (hR.cell 1).trans rfl
    have r2 : wr.cell? ⟨w.heap.size, 2, none⟩ = some (.int .i64 0) := (hR.cell 2).trans rfl
    have f0 := hR.frozen 0
    have f1 := hR.frozen 1
    have f2 := hR.frozen 2
    have g0 := hM.frozen 0
    have g1 := hM.frozen 1
    have g2 := hM.frozen 2
    have hsz := hM.lt
    have hsz0 := hR.lt
    by_cases hok : (followO t).isSome = true
    · have HO : Hid (followO t = some (x, y, z)) := by
        show _ = _
        have := hv.out
        cases e : followO t with
        | none => rw [e] at hok; cases hok
        | some u =>
          rw [e] at this
          obtain ⟨a, b, c⟩ := u
          simp only [optV, vT, trip, Value.agg.injEq, Array.mk.injEq, List.cons.injEq, Value.int.injEq, true_and, and_true] at this
          obtain ⟨rfl, rfl, rfl⟩ := this
          rfl
      rw [hok]
      clear hok hv
      go_wp2_with fail
      go_region
      all_goals
        go_wp2_with fail
        exact bodyPost_ret (res_tmp_cell (g := w.heap.size) Tryd.results16 rfl (((((hR.drew).set 0 _).set 1 _).set 2 _).load Tryd.underlying33 rfl arr22)) rfl ⟨t, x, y, z, rfl, ⟨hp.out, HO.out⟩, bl_set (bl_set (bl_set (bl_drewN hb 1) (by simp) _) (by simp) _) (by simp) _⟩
    · have hok : (followO t).isSome = false := by simpa using hok
      have hpos : 0 < t.size := by
        rcases Nat.eq_zero_or_pos t.size with h | h
        · rw [follow_empty h] at hok; cases hok
        · exact h
      rw [hok]
      have hp' := dropB_path hp.out
      have hlt := Lib.hid (dropB_size hpos)
      have hts' : (dropB t).size ≤ 60 := path_size hp'
      obtain ⟨x', y', z', hv'⟩ := optV_agg (followO (dropB t))
      obtain ⟨ok1, hk1⟩ : ∃ ok, ok = (followO (dropB t)).isSome := ⟨_, rfl⟩
      have R1 : Hid (∀ W, Calls Tryd.prog 38 #[.string (t.extract 0 (t.size - 1))] W fun e w' => e = .returned (.tuple #[.agg #[.int .i64 x', .int .i64 y', .int .i64 z'], .bool ok1]) ∧ Below W.heap.size W w') := by
        intro W
        have := R.out (dropB t) W hp'
        rw [hv', ← hk1] at this
        exact this
      have HP' := Lib.hid hp'
      have HV' := Lib.hid hv'
      have HK1 := Lib.hid hk1
      have HS' := Lib.hid hts'
      clear hok hp hv hv' hp' hk1 hts'
      go_wp2_with fail
      refine (R1.out _).mono ?_
      rintro e w3 ⟨rfl, hb3⟩
      obtain ⟨hc3, hf3⟩ := bl_cells hb3
      have hs3 : w2.heap.size < w3.heap.size := Nat.lt_of_lt_of_le hsz hb3.size
      have hbC := bl_then hb hb3
      have hR3 := hR.kept hb3
      have hM3 := hM.kept hb3
      have hlw : w.heap.size ≠ w2.heap.size := HN.out
      have hle : w.heap.size ≤ w2.heap.size := HN2.out
      go_wp2_with fail
      go_roundw
      case rel => exact ⟨dropB t, x', y', z', rfl, by rw [HK1.out], HS'.out, HP', HV', ((hR3.far hlw _).far hlw _).far hlw _, ((hM3.set 0 _).set 1 _).set 2 _, bl_set (bl_set (bl_set hbC hle _) hle _) hle _⟩
      case measure => exact hlt.out
end Go.Proofs.YtpmamdadcmcbeaaDoor
