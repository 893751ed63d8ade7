/-
  The law TreadTidies: the walk.
-/
import Derived.Test.YtpclkocfbkjabaaA24
import Derived.Test.YtpclkocfbkjabaaT25
import Derived.Test.YtpclkocfbkjabaaT35
namespace Go.Proofs.Ytpclkocfbkjabaa
open Go.RowKit Go.Shelf
set_option linter.unusedVariables false
set_option linter.unusedSimpArgs false

set_option maxRecDepth 100000 in
set_option maxHeartbeats 4000000 in
theorem TreadTidies_walk (n : Int) (v : Value) (ss : List ByteArray) (W : World) (hn : (Lit.int .i64 n).wf = true) (hv : StrsAt W v ss) (hl : ss.length * 16 ≤ 140737488351232) (hz : ∀ s ∈ ss, s.size ≤ maxLen) (hG : HasG W) :
    Calls Try.prog 11 #[.int .i64 n, v] W fun e w' => e = .returned (.bool true) ∧ Below W.heap.size W w' := by
  have PT := Lib.hid fun W h => patterns_any v ss W h hz
  have HV := Lib.hid hv
  obtain ⟨l, hl⟩ : ∃ l, l = patC ss := ⟨_, rfl⟩
  have h13 : l.length ≤ 13 := by rw [hl]; exact patC_len ss
  have h6 : ∀ s ∈ l, s.size ≤ 6 := by rw [hl]; exact patC_size ss
  rw [← hl] at PT
  have AW := Lib.hid fun W h => awake_any W h
  have HG := Lib.hid hG
  have SE := Lib.hid fun v W h => Set_any n v l W h (fun s hs => Nat.le_trans (h6 s hs) (by omega))
  clear hG hv hz hl hn
  cases hset : setB n l with
  | false =>
    have TI := Lib.hid fun v W h => Tidy_no n v l W h hset
    have NE := Lib.hid fun v W h => Needed_no n v l W h hset
    rw [hset] at SE
    clear hset
    go_enter Try.func11, Try.ntmps11
    go_wp2_with fail
    refine (PT.out _ HV.out).mono ?_
    rintro e w1 ⟨v1, rfl, ho1, hb1⟩
    have HS1 := Lib.hid (strs_own ho1 (by omega))
    have HB1 := Lib.hid hb1
    clear ho1 hb1
    go_wp2_with fail
    refine (TI.out _ _ HS1.out).mono ?_
    rintro e w2 ⟨rfl, hb2⟩
    have HS2 := Lib.hid (HS1.out.kept hb2)
    have HB2 := Lib.hid (bl_then HB1.out hb2)
    clear hb2
    go_wp2_with fail
    refine (NE.out _ _ HS2.out).mono ?_
    rintro e w3 ⟨rfl, hb3⟩
    have HS3 := Lib.hid (HS2.out.kept hb3)
    have HB3 := Lib.hid (bl_then HB2.out hb3)
    clear hb3
    go_wp2_with fail
    refine (SE.out _ _ HS3.out).mono ?_
    rintro e w4 ⟨rfl, hb4⟩
    have HB4 := Lib.hid (bl_then HB3.out hb4)
    clear hb4
    go_wp2_with fail
    refine (AW.out _ (HG.out.kept HB4.out)).mono ?_
    rintro e w9 ⟨rfl, hb9⟩
    have HB9 := Lib.hid (bl_then HB4.out hb9)
    clear hb9
    go_wp2_with fail
    go_ret
    exact ⟨rfl, HB9.out⟩
  | true =>
    obtain ⟨q, rfl⟩ : ∃ q : Nat, n = q := ⟨n.toNat, by have := (setB_parts hset).1; omega⟩
    have hq : 1 ≤ q ∧ q ≤ 3 := by have := (setB_parts hset).1; omega
    have h0 := ok_nil (pats_some hset)
    have TI := Lib.hid fun v W h h2 => Tidy_any q v l W h hset h2
    have RT := Lib.hid fun v W h => RTidy_any v l W h (by omega) (fun s hs => Nat.le_trans (h6 s hs) (by omega))
    rw [tid_sel hset] at RT
    have RU := Lib.hid fun v W h => Unav_any q hq v l W h (fun s hs => Nat.le_trans (h6 s hs) (by omega)) (by omega) h0
    have RN := Lib.hid fun v W h => RNeeded_any q hq v l W h (by omega) (fun s hs => Nat.le_trans (h6 s hs) (by omega)) h0
    have TX := Lib.hid fun v v' L W h1 h2 h3 => texts_same v v' L W h1 h2 h3
    have ht13 : (tidB l).length ≤ 1000 := Nat.le_trans (tid_sub l).length_le (by omega)
    have hn13 : (ndTo q l l.length).length ≤ 1000 := Nat.le_trans (nd_len q l l.length) (by omega)
    have e_nd : selTo (ndB q l) l l.length = ndTo q l l.length := rfl
    rw [e_nd] at RN
    obtain ⟨t, ht⟩ : ∃ t, t = tidB l := ⟨_, rfl⟩
    obtain ⟨nd, hnd⟩ : ∃ nd, nd = ndTo q l l.length := ⟨_, rfl⟩
    rw [← ht] at TI RT ht13
    rw [← hnd] at RN hn13
    cases he : endsB (tabL (pats l) q) with
    | false =>
      have NE := Lib.hid fun v W h h2 => Needed_none q v l W h hset h2 he
      rw [he] at RU
      rw [hset] at SE
      clear hset h0 ht hnd e_nd he
      go_enter Try.func11, Try.ntmps11
      go_wp2_with fail
      refine (PT.out _ HV.out).mono ?_
      rintro e w1 ⟨v1, rfl, ho1, hb1⟩
      have HS1 := Lib.hid (strs_own ho1 (by omega))
      have HB1 := Lib.hid hb1
      clear ho1 hb1
      go_wp2_with fail
      refine (TI.out _ _ HS1.out (HG.out.kept HB1.out)).mono ?_
      rintro e w2 ⟨v2, rfl, ho2, hb2⟩
      have HS2 := Lib.hid (HS1.out.kept hb2)
      have HB2 := Lib.hid (bl_then HB1.out hb2)
      have HT2 := Lib.hid (strs_own ho2 (by omega))
      obtain ⟨A2, c2, rfl, _⟩ := own_any ho2
      clear hb2 ho2
      go_wp2_with fail
      refine (NE.out _ _ HS2.out (HG.out.kept HB2.out)).mono ?_
      rintro e w3 ⟨rfl, hb3⟩
      have HS3 := Lib.hid (HS2.out.kept hb3)
      have HB3 := Lib.hid (bl_then HB2.out hb3)
      have HT3 := Lib.hid (HT2.out.kept hb3)
      clear hb3
      go_wp2_with fail
      refine (SE.out _ _ HS3.out).mono ?_
      rintro e w4 ⟨rfl, hb4⟩
      have HS4 := Lib.hid (HS3.out.kept hb4)
      have HB4 := Lib.hid (bl_then HB3.out hb4)
      have HT4 := Lib.hid (HT3.out.kept hb4)
      clear hb4
      go_wp2_with fail
      refine (RT.out _ _ HS4.out).mono ?_
      rintro e w5 ⟨v5, rfl, ho5, hb5⟩
      have HS5 := Lib.hid (HS4.out.kept hb5)
      have HB5 := Lib.hid (bl_then HB4.out hb5)
      have HT5 := Lib.hid (HT4.out.kept hb5)
      have HR5 := Lib.hid (strs_own ho5 (by omega))
      clear hb5 ho5
      go_wp2_with fail
      refine (TX.out _ _ t _ HT5.out.texts HR5.out.texts (by omega)).mono ?_
      rintro e w6 ⟨rfl, hb6⟩
      have HS6 := Lib.hid (HS5.out.kept hb6)
      have HB6 := Lib.hid (bl_then HB5.out hb6)
      clear hb6
      go_wp2_with fail
      refine (RU.out _ _ HS6.out).mono ?_
      rintro e w7 ⟨rfl, hb7⟩
      have HB7 := Lib.hid (bl_then HB6.out hb7)
      clear hb7
      go_wp2_with fail
      refine (AW.out _ (HG.out.kept HB7.out)).mono ?_
      rintro e w9 ⟨rfl, hb9⟩
      have HB9 := Lib.hid (bl_then HB7.out hb9)
      clear hb9
      go_wp2_with fail
      go_ret
      exact ⟨rfl, HB9.out⟩
    | true =>
      have NE := Lib.hid fun v W h h2 => Needed_any q v l W h hset h2 he
      rw [← hnd] at NE
      rw [he] at RU
      rw [hset] at SE
      clear hset h0 ht hnd e_nd he
      go_enter Try.func11, Try.ntmps11
      go_wp2_with fail
      refine (PT.out _ HV.out).mono ?_
      rintro e w1 ⟨v1, rfl, ho1, hb1⟩
      have HS1 := Lib.hid (strs_own ho1 (by omega))
      have HB1 := Lib.hid hb1
      clear ho1 hb1
      go_wp2_with fail
      refine (TI.out _ _ HS1.out (HG.out.kept HB1.out)).mono ?_
      rintro e w2 ⟨v2, rfl, ho2, hb2⟩
      have HS2 := Lib.hid (HS1.out.kept hb2)
      have HB2 := Lib.hid (bl_then HB1.out hb2)
      have HT2 := Lib.hid (strs_own ho2 (by omega))
      obtain ⟨A2, c2, rfl, _⟩ := own_any ho2
      clear hb2 ho2
      go_wp2_with fail
      refine (NE.out _ _ HS2.out (HG.out.kept HB2.out)).mono ?_
      rintro e w3 ⟨v3, rfl, ho3, hb3⟩
      have HS3 := Lib.hid (HS2.out.kept hb3)
      have HB3 := Lib.hid (bl_then HB2.out hb3)
      have HT3 := Lib.hid (HT2.out.kept hb3)
      have HN3 := Lib.hid (strs_own ho3 (by omega))
      clear hb3 ho3
      go_wp2_with fail
      refine (SE.out _ _ HS3.out).mono ?_
      rintro e w4 ⟨rfl, hb4⟩
      have HS4 := Lib.hid (HS3.out.kept hb4)
      have HB4 := Lib.hid (bl_then HB3.out hb4)
      have HT4 := Lib.hid (HT3.out.kept hb4)
      have HN4 := Lib.hid (HN3.out.kept hb4)
      clear hb4
      go_wp2_with fail
      refine (RT.out _ _ HS4.out).mono ?_
      rintro e w5 ⟨v5, rfl, ho5, hb5⟩
      have HS5 := Lib.hid (HS4.out.kept hb5)
      have HB5 := Lib.hid (bl_then HB4.out hb5)
      have HT5 := Lib.hid (HT4.out.kept hb5)
      have HN5 := Lib.hid (HN4.out.kept hb5)
      have HR5 := Lib.hid (strs_own ho5 (by omega))
      clear hb5 ho5
      go_wp2_with fail
      refine (TX.out _ _ t _ HT5.out.texts HR5.out.texts (by omega)).mono ?_
      rintro e w6 ⟨rfl, hb6⟩
      have HS6 := Lib.hid (HS5.out.kept hb6)
      have HB6 := Lib.hid (bl_then HB5.out hb6)
      have HN6 := Lib.hid (HN5.out.kept hb6)
      clear hb6
      go_wp2_with fail
      refine (RU.out _ _ HS6.out).mono ?_
      rintro e w7 ⟨rfl, hb7⟩
      have HS7 := Lib.hid (HS6.out.kept hb7)
      have HB7 := Lib.hid (bl_then HB6.out hb7)
      have HN7 := Lib.hid (HN6.out.kept hb7)
      clear hb7
      go_wp2_with fail
      refine (RN.out _ _ HS7.out).mono ?_
      rintro e w8 ⟨v8, rfl, ho8, hb8⟩
      have HB8 := Lib.hid (bl_then HB7.out hb8)
      have HN8 := Lib.hid (HN7.out.kept hb8)
      have HR8 := Lib.hid (strs_own ho8 (by omega))
      clear hb8 ho8
      go_wp2_with fail
      refine (TX.out _ _ nd _ HN8.out.texts HR8.out.texts (by omega)).mono ?_
      rintro e w10 ⟨rfl, hb10⟩
      have HB10 := Lib.hid (bl_then HB8.out hb10)
      clear hb10
      go_wp2_with fail
      refine (AW.out _ (HG.out.kept HB10.out)).mono ?_
      rintro e w9 ⟨rfl, hb9⟩
      have HB9 := Lib.hid (bl_then HB10.out hb9)
      clear hb9
      go_wp2_with fail
      go_ret
      exact ⟨rfl, HB9.out⟩
end Go.Proofs.Ytpclkocfbkjabaa
