/-
  The law TreadIndexes: the walk. (Printed by tools/genLIndexes.py.)
-/
import Derived.Test.YtnamafakjkcmjaaT62
import Derived.Test.YtnamafakjkcmjaaT64
import Derived.Test.YtnamafakjkcmjaaT25
import Derived.Test.YtnamafakjkcmjaaMD
namespace Go.Proofs.Ytnamafakjkcmjaa
open Go.RowKit Go.Shelf
set_option linter.unusedVariables false
set_option linter.unusedSimpArgs false

set_option maxRecDepth 100000 in
set_option maxHeartbeats 4000000 in
theorem TreadIndexes_walk (n : Int) (v : Value) (ss : List ByteArray) (wd : ByteArray) (W : World) (hn : (Lit.int .i64 n).wf = true) (hv : StrsAt W v ss) (hl : ss.length * 16 ≤ 140737488351232) (hz : ∀ s ∈ ss, s.size ≤ maxLen) (hwz : wd.size ≤ 140737488351232) (hG : HasG W) :
    Calls Try.prog 4 #[.int .i64 n, v, .string wd] W fun e w' => e = .returned (.bool true) ∧ Below W.heap.size W w' := by
  have PT := Lib.hid fun W h => patterns_any v ss W h hz
  have HV := Lib.hid hv
  obtain ⟨l, hl⟩ : ∃ l, l = patC ss := ⟨_, rfl⟩
  have h13 : l.length ≤ 13 := by rw [hl]; exact patC_len ss
  have h6 : ∀ s ∈ l, s.size ≤ 6 := by rw [hl]; exact patC_size ss
  rw [← hl] at PT
  have BR := Lib.hid fun W => brief_any wd W hwz
  obtain ⟨s, hs⟩ : ∃ s, s = wd.extract 0 (min wd.size 61) := ⟨_, rfl⟩
  have hsz : s.size ≤ 61 := by rw [hs, ByteArray.size_extract]; omega
  rw [← hs] at BR
  have AW := Lib.hid fun W h => awake_any W h
  have HG := Lib.hid hG
  have SE := Lib.hid fun v W h => Set_any n v l W h (fun s hs => Nat.le_trans (h6 s hs) (by omega))
  have LE := Lib.hid fun (q : Nat) (hq : q ≤ 3) W => Letters_any q hq s W (by omega)
  clear hG hv hz hl hn hs hwz
  obtain ⟨Z, hZ⟩ : ∃ Z, Z = s.size := ⟨_, rfl⟩
  have hZs : s.size = Z := hZ.symm
  by_cases hbad : setB n l = false ∨ 60 < Z ∨ (setB n l = true ∧ lettB n.toNat (sb s) = false)
  · have IX := Lib.hid fun v W h => Index_no n v l s W h (by rw [hZs]; exact hbad)
    have HBAD := Lib.hid hbad
    clear hbad hZ
    go_enter Try.func4, Try.ntmps4
    go_wp2_with fail
    refine (PT.out _ HV.out).mono ?_
    rintro e w1 ⟨v1, rfl, ho1, hb1⟩
    have HS1 := Lib.hid (strs_own ho1 (by omega))
    have HB1 := Lib.hid hb1
    clear ho1 hb1
    go_wp2_with fail
    refine (BR.out _).mono ?_
    rintro e w98 ⟨rfl, rfl⟩
    go_wp2_with fail
    refine (IX.out _ _ HS1.out).mono ?_
    rintro e w2 ⟨rfl, hb2⟩
    have HB2 := Lib.hid (bl_then HB1.out hb2)
    have HS2 := Lib.hid (HS1.out.kept hb2)
    clear hb2
    go_wp2_with fail
    refine (SE.out _ _ HS2.out).mono ?_
    rintro e w3 ⟨rfl, hb3⟩
    have HB3 := Lib.hid (bl_then HB2.out hb3)
    have HS3 := Lib.hid (HS2.out.kept hb3)
    clear hb3
    cases hset : setB n l with
    | false =>
      clear hset
      go_wp2_with fail
      refine (AW.out _ (HG.out.kept HB3.out)).mono ?_
      rintro e w99 ⟨rfl, hb99⟩
      have HB99 := Lib.hid (bl_then HB3.out hb99)
      clear hb99
      go_wp2_with fail
      go_ret
      exact ⟨rfl, HB99.out⟩
    | true =>
      have hq := (setB_parts hset).1
      obtain ⟨q, rfl⟩ : ∃ q : Nat, n = q := ⟨n.toNat, by omega⟩
      by_cases hk6 : 60 < Z
      · have hk7 : (60 : Int) < (Z : Int) := by omega
        clear hset hq
        go_wp2_with fail
        refine (AW.out _ (HG.out.kept HB3.out)).mono ?_
        rintro e w99 ⟨rfl, hb99⟩
        have HB99 := Lib.hid (bl_then HB3.out hb99)
        clear hb99
        go_wp2_with fail
        go_ret
        exact ⟨rfl, HB99.out⟩
      · have hk7 : ¬ (60 : Int) < (Z : Int) := by omega
        have LE1 := Lib.hid fun W => LE.out q (by omega) W
        have hlt : lettB q (sb s) = false := by
          rcases HBAD.out with h | h | h
          · rw [hset] at h; cases h
          · exact absurd h hk6
          · exact h.2
        rw [hlt] at LE1
        clear hset hlt hq LE
        go_wp2_with fail
        refine (LE1.out _).mono ?_
        rintro e w98 ⟨rfl, rfl⟩
        go_wp2_with fail
        refine (AW.out _ (HG.out.kept HB3.out)).mono ?_
        rintro e w99 ⟨rfl, hb99⟩
        have HB99 := Lib.hid (bl_then HB3.out hb99)
        clear hb99
        go_wp2_with fail
        go_ret
        exact ⟨rfl, HB99.out⟩
  · have hset : setB n l = true := by
      cases h : setB n l with
      | true => rfl
      | false => exact absurd (.inl h) hbad
    have hk6 : ¬ 60 < Z := fun h => hbad (.inr (.inl h))
    have hlt : lettB n.toNat (sb s) = true := by
      cases h : lettB n.toNat (sb s) with
      | true => rfl
      | false => exact absurd (.inr (.inr ⟨hset, h⟩)) hbad
    clear hbad
    have hq := (setB_parts hset).1
    obtain ⟨q, rfl⟩ : ∃ q : Nat, n = q := ⟨n.toNat, by omega⟩
    rw [show ((q : Int).toNat) = q from rfl] at hlt
    have hq3 : 1 ≤ q ∧ q ≤ 3 := by omega
    have LE1 := Lib.hid fun W => LE.out q (by omega) W
    rw [hlt] at LE1
    have h0 := ok_nil (pats_some hset)
    have hp5 := pats_five hset
    obtain ⟨T, hT⟩ : ∃ T, T = tabL (pats l) q := ⟨_, rfl⟩
    have hlen : (sb s).length = Z := by rw [sb_size]; exact hZs
    have IX := Lib.hid fun v W h h2 => Index_any q Z v l (sb s) W T hT h hset hlen (by omega) hlt h2
    have RC := Lib.hid fun v W h => RCount_any q Z hq3 (by omega) v l W T hT h (fun s hs => Nat.le_trans (h6 s hs) (by omega)) (by omega) h0
    have AV := Lib.hid fun v W h => Avoids_any v l s W h (fun p hp => Nat.le_trans (h6 p hp) (by omega)) (by omega) (by omega)
    have HL := Lib.hid ((lettB_iff hq3.2 _).1 hlt)
    have RX := Lib.hid fun v W h hfew (hok : okL (pats l) (sb s) = true) => RIndex_any q Z (sb s) hq3 (by omega) v l W T hT h (fun s hs => Nat.le_trans (h6 s hs) (by omega)) (by omega) h0 hfew (by rw [hT]; exact (mem_acc0 h0 hp5 hq3.2 Z (sb s)).2 ⟨hlen, HL.out, hok⟩) hlen HL.out
    rw [bs_sb] at IX RX
    rw [hset] at SE
    obtain ⟨r, hr⟩ : ∃ r, r = (accL T Z 0).idxOf (sb s) := ⟨_, rfl⟩
    rw [← hr] at IX RX
    have hk7 : ¬ (60 : Int) < (Z : Int) := by omega
    clear hset hlt hq LE h0 hT hlen hp5 hr hZ hk6
    go_enter Try.func4, Try.ntmps4
    go_wp2_with fail
    refine (PT.out _ HV.out).mono ?_
    rintro e w1 ⟨v1, rfl, ho1, hb1⟩
    have HS1 := Lib.hid (strs_own ho1 (by omega))
    have HB1 := Lib.hid hb1
    clear ho1 hb1
    go_wp2_with fail
    refine (BR.out _).mono ?_
    rintro e w98 ⟨rfl, rfl⟩
    go_wp2_with fail
    refine (IX.out _ _ HS1.out (HG.out.kept HB1.out)).mono ?_
    rintro e w2 ⟨hr, hb2⟩
    have HB2 := Lib.hid (bl_then HB1.out hb2)
    have HS2 := Lib.hid (HS1.out.kept hb2)
    clear hb2
    rcases hr with ⟨hf, rfl⟩ | ⟨hf, hok, rfl⟩ | ⟨hf, hok, rfl⟩
    · have HF := Lib.hid hf
      clear hf
      go_wp2_with fail
      refine (SE.out _ _ HS2.out).mono ?_
      rintro e w3 ⟨rfl, hb3⟩
      have HB3 := Lib.hid (bl_then HB2.out hb3)
      have HS3 := Lib.hid (HS2.out.kept hb3)
      clear hb3
      go_wp2_with fail
      refine (LE1.out _).mono ?_
      rintro e w98 ⟨rfl, rfl⟩
      go_wp2_with fail
      refine (RC.out _ _ HS3.out).mono ?_
      rintro e w4 ⟨hr, hb4⟩
      have HB4 := Lib.hid (bl_then HB3.out hb4)
      have HS4 := Lib.hid (HS3.out.kept hb4)
      clear hb4
      rcases hr with ⟨he, rfl⟩ | ⟨he, rfl⟩
      · clear he
        go_wp2_with fail
        refine (AW.out _ (HG.out.kept HB4.out)).mono ?_
        rintro e w99 ⟨rfl, hb99⟩
        have HB99 := Lib.hid (bl_then HB4.out hb99)
        clear hb99
        go_wp2_with fail
        go_ret
        exact ⟨rfl, HB99.out⟩
      · rw [HF.out] at he; cases he
    · have HF := Lib.hid hf
      clear hf
      have HOK := Lib.hid hok
      clear hok
      go_wp2_with fail
      refine (SE.out _ _ HS2.out).mono ?_
      rintro e w3 ⟨rfl, hb3⟩
      have HB3 := Lib.hid (bl_then HB2.out hb3)
      have HS3 := Lib.hid (HS2.out.kept hb3)
      clear hb3
      go_wp2_with fail
      refine (LE1.out _).mono ?_
      rintro e w98 ⟨rfl, rfl⟩
      go_wp2_with fail
      refine (RC.out _ _ HS3.out).mono ?_
      rintro e w4 ⟨hr, hb4⟩
      have HB4 := Lib.hid (bl_then HB3.out hb4)
      have HS4 := Lib.hid (HS3.out.kept hb4)
      clear hb4
      rcases hr with ⟨he, rfl⟩ | ⟨he, rfl⟩
      · rw [HF.out] at he; cases he
      · clear he
        generalize cntT T Z 0 = x
        have AV1 := Lib.hid fun W h => AV.out v1 W h
        rw [HOK.out] at AV1
        go_wp2_with fail
        refine (AV1.out _ HS4.out).mono ?_
        rintro e w98 ⟨rfl, rfl⟩
        go_wp2_with fail
        refine (AW.out _ (HG.out.kept HB4.out)).mono ?_
        rintro e w99 ⟨rfl, hb99⟩
        have HB99 := Lib.hid (bl_then HB4.out hb99)
        clear hb99
        go_wp2_with fail
        go_ret
        exact ⟨rfl, HB99.out⟩
    · have HF := Lib.hid hf
      clear hf
      have HOK := Lib.hid hok
      clear hok
      go_wp2_with fail
      refine (SE.out _ _ HS2.out).mono ?_
      rintro e w3 ⟨rfl, hb3⟩
      have HB3 := Lib.hid (bl_then HB2.out hb3)
      have HS3 := Lib.hid (HS2.out.kept hb3)
      clear hb3
      go_wp2_with fail
      refine (LE1.out _).mono ?_
      rintro e w98 ⟨rfl, rfl⟩
      go_wp2_with fail
      refine (RC.out _ _ HS3.out).mono ?_
      rintro e w4 ⟨hr, hb4⟩
      have HB4 := Lib.hid (bl_then HB3.out hb4)
      have HS4 := Lib.hid (HS3.out.kept hb4)
      clear hb4
      rcases hr with ⟨he, rfl⟩ | ⟨he, rfl⟩
      · rw [HF.out] at he; cases he
      · clear he
        generalize cntT T Z 0 = x
        have AV1 := Lib.hid fun W h => AV.out v1 W h
        rw [HOK.out] at AV1
        go_wp2_with fail
        refine (AV1.out _ HS4.out).mono ?_
        rintro e w98 ⟨rfl, rfl⟩
        go_wp2_with fail
        refine (RX.out _ _ HS4.out HF.out HOK.out).mono ?_
        rintro e w5 ⟨rfl, hb5⟩
        have HB5 := Lib.hid (bl_then HB4.out hb5)
        clear hb5
        go_wp2_with fail
        refine (AW.out _ (HG.out.kept HB5.out)).mono ?_
        rintro e w99 ⟨rfl, hb99⟩
        have HB99 := Lib.hid (bl_then HB5.out hb99)
        clear hb99
        go_wp2_with fail
        go_ret
        exact ⟨rfl, HB99.out⟩
end Go.Proofs.Ytnamafakjkcmjaa
