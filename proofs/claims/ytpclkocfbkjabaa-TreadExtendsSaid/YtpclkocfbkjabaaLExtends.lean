/-
  The law TreadExtends: the walk.
-/
import Derived.Test.YtpclkocfbkjabaaT46
import Derived.Test.YtpclkocfbkjabaaT47
import Derived.Test.YtpclkocfbkjabaaT25
import Derived.Test.YtpclkocfbkjabaaMD
namespace Go.Proofs.Ytpclkocfbkjabaa
open Go.RowKit Go.Shelf
set_option linter.unusedVariables false
set_option linter.unusedSimpArgs false

set_option maxRecDepth 100000 in
set_option maxHeartbeats 4000000 in
theorem TreadExtends_walk (n : Int) (v : Value) (ss : List ByteArray) (wd : ByteArray) (k : Int) (W : World) (hn : (Lit.int .i64 n).wf = true) (hv : StrsAt W v ss) (hl : ss.length * 16 ≤ 140737488351232) (hz : ∀ s ∈ ss, s.size ≤ maxLen) (hwz : wd.size ≤ 140737488351232) (hk : (Lit.int .i64 k).wf = true) (hG : HasG W) :
    Calls Try.prog 9 #[.int .i64 n, v, .string wd, .int .i64 k] W fun e w' => e = .returned (.bool true) ∧ Below W.heap.size W w' := by
  have PT := Lib.hid fun W h => patterns_any v ss W h hz
  have HV := Lib.hid hv
  obtain ⟨l, hl⟩ : ∃ l, l = patC ss := ⟨_, rfl⟩
  have h13 : l.length ≤ 13 := by rw [hl]; exact patC_len ss
  have h6 : ∀ s ∈ l, s.size ≤ 6 := by rw [hl]; exact patC_size ss
  rw [← hl] at PT
  have BR := Lib.hid fun W => brief_any wd W hwz
  obtain ⟨s, hs⟩ : ∃ s, s = wd.extract 0 (min wd.size 61) := ⟨_, rfl⟩
  have hsz : s.size ≤ 61 := by rw [hs, ByteArray.size_extract]; omega
  rw [← hs] at BR
  have AW := Lib.hid fun W h => awake_any W h
  have HG := Lib.hid hG
  have SE := Lib.hid fun v W h => Set_any n v l W h (fun s hs => Nat.le_trans (h6 s hs) (by omega))
  have LE := Lib.hid fun (q : Nat) (hq : q ≤ 3) W => Letters_any q hq s W (by omega)
  clear hG hv hz hl hn hk hs hwz
  by_cases hbad : setB n l = false ∨ (k < 0 ∨ 60 < k) ∨ k < s.size ∨ (setB n l = true ∧ lettB n.toNat (sb s) = false)
  · have EX := Lib.hid fun v W h => Extend_no n k v l s W h hbad
    have HBAD := Lib.hid hbad
    clear hbad
    go_enter Try.func9, Try.ntmps9
    go_wp2_with fail
    refine (PT.out _ HV.out).mono ?_
    rintro e w1 ⟨v1, rfl, ho1, hb1⟩
    have HS1 := Lib.hid (strs_own ho1 (by omega))
    have HB1 := Lib.hid hb1
    clear ho1 hb1
    go_wp2_with fail
    refine (BR.out _).mono ?_
    rintro e w2 ⟨rfl, rfl⟩
    go_wp2_with fail
    refine (EX.out _ _ HS1.out).mono ?_
    rintro e w3 ⟨rfl, hb2⟩
    have HS2 := Lib.hid (HS1.out.kept hb2)
    have HB2 := Lib.hid (bl_then HB1.out hb2)
    clear hb2
    go_wp2_with fail
    refine (SE.out _ _ HS2.out).mono ?_
    rintro e w3 ⟨rfl, hb3⟩
    have HS3 := Lib.hid (HS2.out.kept hb3)
    have HB3 := Lib.hid (bl_then HB2.out hb3)
    clear hb3
    cases hset : setB n l with
    | false =>
      clear hset
      go_wp2_with fail
      refine (AW.out _ (HG.out.kept HB3.out)).mono ?_
      rintro e w9 ⟨rfl, hb9⟩
      have HB9 := Lib.hid (bl_then HB3.out hb9)
      clear hb9
      go_wp2_with fail
      go_ret
      exact ⟨rfl, HB9.out⟩
    | true =>
      have hq := (setB_parts hset).1
      obtain ⟨q, rfl⟩ : ∃ q : Nat, n = q := ⟨n.toNat, by omega⟩
      have LE1 := Lib.hid fun W => LE.out q (by omega) W
      cases hlt : lettB q (sb s) with
      | false =>
        rw [hlt] at LE1
        clear hset hlt hq LE
        go_wp2_with fail
        refine (LE1.out _).mono ?_
        rintro e w4 ⟨rfl, rfl⟩
        go_wp2_with fail
        refine (AW.out _ (HG.out.kept HB3.out)).mono ?_
        rintro e w9 ⟨rfl, hb9⟩
        have HB9 := Lib.hid (bl_then HB3.out hb9)
        clear hb9
        go_wp2_with fail
        go_ret
        exact ⟨rfl, HB9.out⟩
      | true =>
        rw [hlt] at LE1
        have hk2 : (k < 0 ∨ 60 < k) ∨ k < s.size := by
          rcases HBAD.out with h | h | h | h
          · rw [hset] at h; cases h
          · exact .inl h
          · exact .inr h
          · rw [show ((q : Int).toNat) = q from rfl, hlt] at h; cases h.2
        clear hset hlt hq LE
        by_cases hk0 : k < 0
        · go_wp2_with fail
          refine (LE1.out _).mono ?_
          rintro e w4 ⟨rfl, rfl⟩
          go_wp2_with fail
          refine (AW.out _ (HG.out.kept HB3.out)).mono ?_
          rintro e w9 ⟨rfl, hb9⟩
          have HB9 := Lib.hid (bl_then HB3.out hb9)
          clear hb9
          go_wp2_with fail
          go_ret
          exact ⟨rfl, HB9.out⟩
        · by_cases hk6 : 60 < k
          · go_wp2_with fail
            refine (LE1.out _).mono ?_
            rintro e w4 ⟨rfl, rfl⟩
            go_wp2_with fail
            refine (AW.out _ (HG.out.kept HB3.out)).mono ?_
            rintro e w9 ⟨rfl, hb9⟩
            have HB9 := Lib.hid (bl_then HB3.out hb9)
            clear hb9
            go_wp2_with fail
            go_ret
            exact ⟨rfl, HB9.out⟩
          · have hks : k < (s.size : Int) := by omega
            clear hk2
            go_wp2_with fail
            refine (LE1.out _).mono ?_
            rintro e w4 ⟨rfl, rfl⟩
            go_wp2_with fail
            refine (AW.out _ (HG.out.kept HB3.out)).mono ?_
            rintro e w9 ⟨rfl, hb9⟩
            have HB9 := Lib.hid (bl_then HB3.out hb9)
            clear hb9
            go_wp2_with fail
            go_ret
            exact ⟨rfl, HB9.out⟩
  · have hset : setB n l = true := by
      cases h : setB n l with
      | true => rfl
      | false => exact absurd (.inl h) hbad
    have hk0 : ¬ k < 0 := fun h => hbad (.inr (.inl (.inl h)))
    have hk6 : ¬ 60 < k := fun h => hbad (.inr (.inl (.inr h)))
    have hks : ¬ k < (s.size : Int) := fun h => hbad (.inr (.inr (.inl h)))
    have hlt : lettB n.toNat (sb s) = true := by
      cases h : lettB n.toNat (sb s) with
      | true => rfl
      | false => exact absurd (.inr (.inr (.inr ⟨hset, h⟩))) hbad
    clear hbad
    have hq := (setB_parts hset).1
    obtain ⟨q, rfl⟩ : ∃ q : Nat, n = q := ⟨n.toNat, by omega⟩
    obtain ⟨m, rfl⟩ : ∃ m : Nat, k = m := ⟨k.toNat, by omega⟩
    rw [show ((q : Int).toNat) = q from rfl] at hlt
    have hq3 : 1 ≤ q ∧ q ≤ 3 := by omega
    have LE1 := Lib.hid fun W => LE.out q (by omega) W
    rw [hlt] at LE1
    have h0 := ok_nil (pats_some hset)
    obtain ⟨T, hT⟩ : ∃ T, T = tabL (pats l) q := ⟨_, rfl⟩
    have hlen : (sb s).length ≤ m := by rw [sb_size]; omega
    have EX := Lib.hid fun v W h h2 => Extend_any q m v l (sb s) W T hT h hset (by omega) hlen hlt h2
    have RX := Lib.hid fun v W h => RExtend_any q m hq3 v l (sb s) W T hT h (fun s hs => Nat.le_trans (h6 s hs) (by omega)) (by omega) h0 (by omega) hlen ((lettB_iff hq3.2 _).1 hlt)
    rw [bs_sb] at EX RX
    rw [hset] at SE
    clear hset hlt hq LE h0 hT hlen
    go_enter Try.func9, Try.ntmps9
    go_wp2_with fail
    refine (PT.out _ HV.out).mono ?_
    rintro e w1 ⟨v1, rfl, ho1, hb1⟩
    have HS1 := Lib.hid (strs_own ho1 (by omega))
    have HB1 := Lib.hid hb1
    clear ho1 hb1
    go_wp2_with fail
    refine (BR.out _).mono ?_
    rintro e w2 ⟨rfl, rfl⟩
    go_wp2_with fail
    refine (EX.out _ _ HS1.out (HG.out.kept HB1.out)).mono ?_
    rintro e w3 ⟨hr, hb2⟩
    have HS2 := Lib.hid (HS1.out.kept hb2)
    have HB2 := Lib.hid (bl_then HB1.out hb2)
    clear hb2
    rcases hr with ⟨hno, rfl⟩ | ⟨i, hri, hci, rfl⟩
    · have HNO := Lib.hid hno
      clear hno
      go_wp2_with fail
      refine (SE.out _ _ HS2.out).mono ?_
      rintro e w3 ⟨rfl, hb3⟩
      have HS3 := Lib.hid (HS2.out.kept hb3)
      have HB3 := Lib.hid (bl_then HB2.out hb3)
      clear hb3
      go_wp2_with fail
      refine (LE1.out _).mono ?_
      rintro e w4 ⟨rfl, rfl⟩
      go_wp2_with fail
      refine (RX.out _ _ HS3.out).mono ?_
      rintro e w5 ⟨hr, hb4⟩
      have HB4 := Lib.hid (bl_then HB3.out hb4)
      clear hb4
      rcases hr with ⟨_, rfl⟩ | ⟨i, hri, hci, rfl⟩
      · go_wp2_with fail
        refine (AW.out _ (HG.out.kept HB4.out)).mono ?_
        rintro e w9 ⟨rfl, hb9⟩
        have HB9 := Lib.hid (bl_then HB4.out hb9)
        clear hb9
        go_wp2_with fail
        go_ret
        exact ⟨rfl, HB9.out⟩
      · exfalso
        rcases HNO.out with h | ⟨j, h1, h2⟩
        · rw [hri] at h; cases h
        · rw [hri] at h1
          injection h1 with h1
          subst h1
          rw [hci] at h2; cases h2
    · have HRI := Lib.hid hri
      have HCI := Lib.hid hci
      clear hri hci
      obtain ⟨r, hr⟩ : ∃ r, r = bs (sb s ++ wayL T (m - (sb s).length) i) := ⟨_, rfl⟩
      rw [← hr]
      have HRR := Lib.hid hr
      clear hr
      go_wp2_with fail
      refine (SE.out _ _ HS2.out).mono ?_
      rintro e w3 ⟨rfl, hb3⟩
      have HS3 := Lib.hid (HS2.out.kept hb3)
      have HB3 := Lib.hid (bl_then HB2.out hb3)
      clear hb3
      go_wp2_with fail
      refine (LE1.out _).mono ?_
      rintro e w4 ⟨rfl, rfl⟩
      go_wp2_with fail
      refine (RX.out _ _ HS3.out).mono ?_
      rintro e w5 ⟨hr, hb4⟩
      have HB4 := Lib.hid (bl_then HB3.out hb4)
      clear hb4
      rcases hr with ⟨hno, rfl⟩ | ⟨j, hri, hci, rfl⟩
      · exfalso
        rcases hno with h | ⟨j, h1, h2⟩
        · rw [HRI.out] at h; cases h
        · rw [HRI.out] at h1
          injection h1 with h1
          subst h1
          rw [HCI.out] at h2; cases h2
      · rw [HRI.out] at hri
        injection hri with hri
        subst hri
        rw [← HRR.out]
        clear hci
        go_wp2_with fail
        refine (AW.out _ (HG.out.kept HB4.out)).mono ?_
        rintro e w9 ⟨rfl, hb9⟩
        have HB9 := Lib.hid (bl_then HB4.out hb9)
        clear hb9
        go_wp2_with fail
        go_ret
        exact ⟨rfl, HB9.out⟩
end Go.Proofs.Ytpclkocfbkjabaa
