/-
  The law TreadExtended: the walk. (Printed by tools/genLExtended.py.)
-/
import Derived.Test.YtnamafakjkcmjaaT71
import Derived.Test.YtnamafakjkcmjaaT46
import Derived.Test.YtnamafakjkcmjaaA33
import Derived.Test.YtnamafakjkcmjaaT25
namespace Go.Proofs.Ytnamafakjkcmjaa
open Go.RowKit Go.Shelf
set_option linter.unusedVariables false
set_option linter.unusedSimpArgs false

theorem bs_take (s : Str) (k : Nat) : (bs s).extract 0 k = bs (s.take k) := by
  apply sb_inj
  unfold sb bs
  rw [ByteArray.data_extract, Array.toList_extract]
  simp
/-- Extend of a word with a beginning: none, or the first such word. -/
theorem Extend_is (q n : Nat) (v : Value) (ss : List ByteArray) (wd : Str) (w : World) (hv : StrsAt w v ss) (hset : setB q ss = true) (hn : n ≤ 60) (hwn : wd.length ≤ n) (hwl : lettB q wd = true) (hG : HasG w) :
    Calls Try.prog 27 #[.int .i64 q, v, .string (bs wd), .int .i64 n] w fun e w' => (e = .returned (.tuple #[.string ⟨#[]⟩, .int .i64 6]) ∨ ∃ x, ExtOk (pats ss) q n wd x ∧ e = .returned (.tuple #[.string (bs x), .int .i64 0])) ∧ Below w.heap.size w w' := by
  have hq : 1 ≤ q ∧ q ≤ 3 := by have := (setB_parts hset).1; omega
  refine (Extend_any q n v ss wd w _ rfl hv hset hn hwn hwl hG).mono ?_
  rintro e w' ⟨⟨_, h⟩ | ⟨i, h1, h2, h3⟩, hb⟩
  · exact ⟨.inl h, hb⟩
  · exact ⟨.inr ⟨_, ext_ok (ok_nil (pats_some hset)) (pats_five hset) hq.2 ((lettB_iff hq.2 wd).1 hwl) hwn h1 h2, h3⟩, hb⟩
/-- Extend of a beginning of that word is the word. -/
theorem Extend_own (q n K : Nat) (v : Value) (ss : List ByteArray) (wd x : Str) (w : World) (hx : ExtOk (pats ss) q n wd x) (hK : wd.length ≤ K ∧ K ≤ n) (hv : StrsAt w v ss) (hset : setB q ss = true) (hn : n ≤ 60) (hG : HasG w) :
    Calls Try.prog 27 #[.int .i64 q, v, .string (bs (x.take K)), .int .i64 n] w fun e w' => e = .returned (.tuple #[.string (bs x), .int .i64 0]) ∧ Below w.heap.size w w' := by
  have hq : 1 ≤ q ∧ q ≤ 3 := by have := (setB_parts hset).1; omega
  have hl : (x.take K).length = K := by rw [List.length_take, hx.len]; omega
  obtain ⟨i2, g1, g2, g3⟩ := hx.own K hK.1 hK.2
  refine (Extend_any q n v ss (x.take K) w _ rfl hv hset hn (by omega) ((lettB_iff hq.2 _).2 fun b hb => hx.lett b (List.mem_of_mem_take hb)) hG).mono ?_
  rw [hl]
  rintro e w' ⟨⟨h1 | ⟨i, h1, h2⟩, _⟩ | ⟨i, h1, h2, h3⟩, hb⟩
  · rw [g1] at h1; cases h1
  · rw [g1] at h1
    injection h1 with h1
    rw [← h1, g2] at h2; cases h2
  · rw [g1] at h1
    injection h1 with h1
    rw [← h1, g3] at h3
    exact ⟨h3, hb⟩
set_option maxRecDepth 100000 in
set_option maxHeartbeats 4000000 in
theorem TreadExtended_walk (x0 : Int) (v : Value) (ss : List ByteArray) (s0 : ByteArray) (n k : Int) (W : World) (hx : (Lit.int .i64 x0).wf = true) (hv : StrsAt W v ss) (hl : ss.length * 16 ≤ 140737488351232) (hz : ∀ s ∈ ss, s.size ≤ maxLen) (hs0 : s0.size ≤ 140737488351232) (hn : (Lit.int .i64 n).wf = true) (hk : (Lit.int .i64 k).wf = true) (hG : HasG W) :
    Calls Try.prog 7 #[.int .i64 x0, v, .string s0, .int .i64 n, .int .i64 k] W fun e w' => e = .returned (.bool true) ∧ Below W.heap.size W w' := by
  have TM := Lib.hid fun W h => tame_any x0 v ss 12 W h hl hz (by omega)
  have HV := Lib.hid hv
  have AW := Lib.hid fun W h => awake_any W h
  have HG := Lib.hid hG
  have MB := Lib.hid fun W => mod_any n 20 W (by omega)
  have LW := Lib.hid fun q (hq : 1 ≤ q ∧ q ≤ 3) W => letters_any s0 q 10 hq W (by unfold maxLen; omega) (by omega)
  clear hG hv hz hl hx hn hk hs0
  go_enter Try.func7, Try.ntmps7
  go_wp2_with fail
  refine (TM.out _ HV.out).mono ?_
  rintro e w1 ⟨q, v1, rfl, hq, ⟨L, hs1, hset, hL12, hnil⟩, hb1⟩
  have HB1 := Lib.hid hb1
  have HS1 := Lib.hid hs1
  obtain ⟨T, hT⟩ : ∃ T, T = tabL (pats L) q := ⟨_, rfl⟩
  have HSET := Lib.hid hset
  have HT := Lib.hid hT
  have h5 : ∀ p ∈ L, p.size ≤ 1000 := fun p hp => by have := ((setB_iff.1 hset).2.2.1 p hp).2.1; omega
  have LT := Lib.hid fun s W h => Letters_any q hq.2 s W h
  have AV := Lib.hid fun s W h h2 => Avoids_any v1 L s W h h5 (by omega) h2
  clear hs1 hb1 hset hT h5
  have HTL := Lib.hid (And.intro (tm_len q 10 s0) (tm_lett hq 10 s0))
  obtain ⟨wd, hwd⟩ : ∃ wd, wd = tmL q 10 s0 := ⟨_, rfl⟩
  rw [← hwd] at HTL
  have LW1 := Lib.hid fun W => LW.out q hq W
  rw [← hwd] at LW1
  clear hwd
  go_wp2_with fail
  refine (LW1.out _).mono ?_
  rintro e w2 ⟨rfl, hb2⟩
  have HB2 := Lib.hid (bl_then HB1.out hb2)
  have HS2 := Lib.hid (HS1.out.kept hb2)
  clear hb2
  obtain ⟨l, hl⟩ : ∃ l, l = wd.length := ⟨_, rfl⟩
  have hl10 : l ≤ 10 := by have := HTL.out.1; omega
  have hwz : (bs wd).size = l := hl.symm
  have HL := Lib.hid hl
  clear hl
  go_wp2_with fail
  refine (MB.out _).mono ?_
  rintro e w98 ⟨⟨r, hr, rfl⟩, rfl⟩
  obtain ⟨m, hm⟩ : ∃ m, m = l + r := ⟨_, rfl⟩
  have hm1 : (l : Int) + (r : Int) = (m : Int) := by omega
  have hm2 := wrapN (D := m) (by omega)
  have hm60 : m ≤ 60 := by omega
  have hf : fewB T m = true := by rw [HT.out]; exact few36 HSET.out m (by omega)
  have HF := Lib.hid hf
  have HM := Lib.hid hm
  have EX := Lib.hid fun W h h2 => Extend_is q m v1 L wd W h HSET.out hm60 (by have := HL.out; omega) HTL.out.2 h2
  clear hf hm
  go_wp2_with fail
  refine (EX.out _ HS2.out (HG.out.kept HB2.out)).mono ?_
  rintro e w3 ⟨hr, hb3⟩
  have HB3 := Lib.hid (bl_then HB2.out hb3)
  have HS3 := Lib.hid (HS2.out.kept hb3)
  clear hb3
  rcases hr with rfl | ⟨x, hx, rfl⟩
  ·
    go_wp2_with fail
    refine (AW.out _ (HG.out.kept HB3.out)).mono ?_
    rintro e w99 ⟨rfl, hb99⟩
    have HB99 := Lib.hid (bl_then HB3.out hb99)
    clear hb99
    go_wp2_with fail
    go_ret
    exact ⟨rfl, HB99.out⟩
  · have HX := Lib.hid hx
    have hxz : (bs x).size = m := hx.len
    have hpre : (bs x).extract 0 l = bs wd := by
      have h := hx.pre
      rw [← HL.out] at h
      rw [bs_take, h]
    have LT1 := Lib.hid fun W => LT.out (bs x) W (by omega)
    rw [show lettB q (sb (bs x)) = true from (lettB_iff hq.2 x).2 hx.lett] at LT1
    have AV1 := Lib.hid fun W h => AV.out (bs x) W h (by omega)
    rw [show okL (pats L) (sb (bs x)) = true from hx.ok] at AV1
    have hlm : (l : Int) ≤ (m : Int) := by have := HM.out; omega
    have hl0 : (0 : Int) ≤ (l : Int) := by omega
    have hml : (m : Int) - (l : Int) = (r : Int) := by have := HM.out; omega
    obtain ⟨r1, hr1⟩ : ∃ r1, r1 = r + 1 := ⟨_, rfl⟩
    have hr2 : (r : Int) + 1 = (r1 : Int) := by omega
    have hr3 := wrapN (D := r1) (by omega)
    have hr4 := wrapN (D := r) (by omega)
    have MR := Lib.hid fun W => mod_any k r1 W (by omega)
    have HR1 := Lib.hid hr1
    obtain ⟨k0, hk0⟩ : ∃ k0, (accL T m 0)[k0]? = some x := List.getElem?_of_mem (by rw [HT.out]; exact hx.mem)
    have HK0 := Lib.hid hk0
    have IX := Lib.hid fun W h h2 => Index_at q m v1 L k0 x W T HT.out h HSET.out hm60 h2 HF.out HK0.out
    clear hx hr1 hk0
    go_wp2_with fail
    refine (LT1.out _).mono ?_
    rintro e w98 ⟨rfl, rfl⟩
    go_wp2_with fail
    refine (AV1.out _ HS3.out).mono ?_
    rintro e w98 ⟨rfl, rfl⟩
    go_wp2_with fail
    refine (MR.out _).mono ?_
    rintro e w98 ⟨⟨d, hd, rfl⟩, rfl⟩
    obtain ⟨K, hK⟩ : ∃ K, K = l + d := ⟨_, rfl⟩
    have hK1 : (l : Int) + (d : Int) = (K : Int) := by omega
    have hK2 := wrapN (D := K) (by omega)
    have hKm : K ≤ m := by have := HM.out; have := HR1.out; omega
    have hKm' : (K : Int) ≤ (m : Int) := by omega
    have hK0 : (0 : Int) ≤ (K : Int) := by omega
    have hpk := bs_take x K
    have EO := Lib.hid fun W h h2 => Extend_own q m K v1 L wd x W HX.out (by have := HL.out; omega) h HSET.out hm60 h2
    clear hK
    go_wp2_with fail
    refine (EO.out _ HS3.out (HG.out.kept HB3.out)).mono ?_
    rintro e w4 ⟨rfl, hb4⟩
    have HB4 := Lib.hid (bl_then HB3.out hb4)
    have HS4 := Lib.hid (HS3.out.kept hb4)
    clear hb4
    go_wp2_with fail
    refine (IX.out _ HS4.out (HG.out.kept HB4.out)).mono ?_
    rintro e w5 ⟨rfl, hb5⟩
    have HB5 := Lib.hid (bl_then HB4.out hb5)
    have HS5 := Lib.hid (HS4.out.kept hb5)
    clear hb5
    by_cases hz0 : k0 = 0
    · subst hz0
      go_wp2_with fail
      refine (AW.out _ (HG.out.kept HB5.out)).mono ?_
      rintro e w99 ⟨rfl, hb99⟩
      have HB99 := Lib.hid (bl_then HB5.out hb99)
      clear hb99
      go_wp2_with fail
      go_ret
      exact ⟨rfl, HB99.out⟩
    · have hk0i : ¬ (k0 : Int) = 0 := by omega
      have hk0b : ((k0 : Int) == 0) = false := beq_false_of_ne hk0i
      obtain ⟨k1, hk1⟩ : ∃ k1, k0 = k1 + 1 := ⟨k0 - 1, by omega⟩
      have hk2 : (k0 : Int) - 1 = (k1 : Int) := by omega
      have hlt : k0 < (accL T m 0).length := (List.getElem?_eq_some_iff.1 HK0.out).1
      have hk3 : IntKind.i64.wrap (k1 : Int) = (k1 : Int) := wrapI (by
        have h1 := (few_len HF.out (Nat.le_refl m)).1
        have h : most1 = 1152921504606846977 := rfl
        omega)
      obtain ⟨z, hz⟩ : ∃ z, (accL T m 0)[k1]? = some z := ⟨_, List.getElem?_eq_getElem (by omega)⟩
      have HZ := Lib.hid hz
      obtain ⟨z1, z2, z3, _, z5⟩ := acc_is q m L HT.out HSET.out hz
      have hzx := acc_up q m L HT.out HSET.out hz HK0.out (by omega)
      have hle := HX.out.least z (by rw [← HT.out]; exact z5) hzx
      rw [← HL.out] at hle
      have hzz : (bs z).size = m := z1
      have hpz := bs_take z l
      have hzb : (z.take l == wd) = false := beq_false_of_ne hle
      have hls := less_bs hzx
      rw [bs_toList, bs_toList] at hls
      have t1 := bs_toList x
      have t2 := bs_toList z
      have t3 := bs_toList (z.take l)
      have t4 := bs_toList wd
      have IT := Lib.hid fun W h h2 => Item_at q m v1 L k1 z W T HT.out h HSET.out hm60 h2 HF.out HZ.out
      clear hz z1 z2 z3 z5 hzx hle hlt hz0 hk1
      go_wp2_with fail
      refine (IT.out _ HS5.out (HG.out.kept HB5.out)).mono ?_
      rintro e w6 ⟨rfl, hb6⟩
      have HB6 := Lib.hid (bl_then HB5.out hb6)
      have HS6 := Lib.hid (HS5.out.kept hb6)
      clear hb6
      go_wp2_with fail
      refine (AW.out _ (HG.out.kept HB6.out)).mono ?_
      rintro e w99 ⟨rfl, hb99⟩
      have HB99 := Lib.hid (bl_then HB6.out hb99)
      clear hb99
      go_wp2_with fail
      go_ret
      exact ⟨rfl, HB99.out⟩
end Go.Proofs.Ytnamafakjkcmjaa
