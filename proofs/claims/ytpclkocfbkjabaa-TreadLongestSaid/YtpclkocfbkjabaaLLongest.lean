/-
  The law TreadLongest: the walk.
-/
import Derived.Test.YtpclkocfbkjabaaT34
import Derived.Test.YtpclkocfbkjabaaT31
namespace Go.Proofs.Ytpclkocfbkjabaa
open Go.RowKit Go.Shelf
set_option linter.unusedVariables false
set_option linter.unusedSimpArgs false

set_option maxRecDepth 100000 in
set_option maxHeartbeats 4000000 in
theorem TreadLongest_walk (n : Int) (v : Value) (ss : List ByteArray) (W : World) (hn : (Lit.int .i64 n).wf = true) (hv : StrsAt W v ss) (hl : ss.length * 16 ≤ 140737488351232) (hz : ∀ s ∈ ss, s.size ≤ maxLen) (hG : HasG W) :
    Calls Try.prog 3 #[.int .i64 n, v] W fun e w' => e = .returned (.bool true) ∧ Below W.heap.size W w' := by
  have PT := Lib.hid fun W h => patterns_any v ss W h hz
  have HV := Lib.hid hv
  obtain ⟨l, hl⟩ : ∃ l, l = patC ss := ⟨_, rfl⟩
  have h13 : l.length ≤ 13 := by rw [hl]; exact patC_len ss
  have h6 : ∀ s ∈ l, s.size ≤ 6 := by rw [hl]; exact patC_size ss
  rw [← hl] at PT
  have AW := Lib.hid fun W h => awake_any W h
  have HG := Lib.hid hG
  have SE := Lib.hid fun v W h => Set_any n v l W h (fun s hs => Nat.le_trans (h6 s hs) (by omega))
  clear hG hv hz hl
  cases hset : setB n l with
  | false =>
    have LO := Lib.hid fun v W h => Longest_no n v l W h hset
    rw [hset] at SE
    clear hset
    go_enter Try.func3, Try.ntmps3
    go_wp2_with fail
    refine (PT.out _ HV.out).mono ?_
    rintro e w1 ⟨v1, rfl, ho1, hb1⟩
    have HS1 := Lib.hid (strs_own ho1 (by omega))
    have HB1 := Lib.hid hb1
    clear ho1 hb1
    go_wp2_with fail
    refine (LO.out _ _ HS1.out).mono ?_
    rintro e w2 ⟨rfl, hb2⟩
    have HS2 := Lib.hid (HS1.out.kept hb2)
    have HB2 := Lib.hid (bl_then HB1.out hb2)
    clear hb2
    go_wp2_with fail
    refine (SE.out _ _ HS2.out).mono ?_
    rintro e w3 ⟨rfl, hb3⟩
    have HB3 := Lib.hid (bl_then HB2.out hb3)
    clear hb3
    go_wp2_with fail
    refine (AW.out _ (HG.out.kept HB3.out)).mono ?_
    rintro e w5 ⟨rfl, hb5⟩
    have HB5 := Lib.hid (bl_then HB3.out hb5)
    clear hb5
    go_wp2_with fail
    go_ret
    exact ⟨rfl, HB5.out⟩
  | true =>
    obtain ⟨q, rfl⟩ : ∃ q : Nat, n = q := ⟨n.toNat, by have := (setB_parts hset).1; omega⟩
    have hq : 1 ≤ q ∧ q ≤ 3 := by have := (setB_parts hset).1; omega
    have h0 := ok_nil (pats_some hset)
    have LO := Lib.hid fun v W h h2 => Longest_any q v l W h hset h2
    have RL := Lib.hid fun v W h => RLongest_any q hq v l W h (fun s hs => Nat.le_trans (h6 s hs) (by omega)) (by omega) h0
    have LF := Lib.hid fun m h => Lng.few (i := 0) (v := m) (tab_ok (q := q) h0) (by rw [stL_fix h0]; simp) h
    have hS := stL_few (pats l) hq.2
    rw [hset] at SE
    obtain ⟨T, hT⟩ : ∃ T, T = tabL (pats l) q := ⟨_, rfl⟩
    rw [← hT] at LO RL LF
    clear hset h0 hT
    go_enter Try.func3, Try.ntmps3
    go_wp2_with fail
    refine (PT.out _ HV.out).mono ?_
    rintro e w1 ⟨v1, rfl, ho1, hb1⟩
    have HS1 := Lib.hid (strs_own ho1 (by omega))
    have HB1 := Lib.hid hb1
    clear ho1 hb1
    go_wp2_with fail
    refine (LO.out _ _ HS1.out (HG.out.kept HB1.out)).mono ?_
    rintro e w2 ⟨hr, hb2⟩
    have HS2 := Lib.hid (HS1.out.kept hb2)
    have HB2 := Lib.hid (bl_then HB1.out hb2)
    have HR := Lib.hid hr
    clear hb2
    rcases hr with ⟨hc, rfl⟩ | ⟨m, hm, rfl⟩
    · have HC := Lib.hid hc
      clear hc HR
      go_wp2_with fail
      refine (SE.out _ _ HS2.out).mono ?_
      rintro e w3 ⟨rfl, hb3⟩
      have HS3 := Lib.hid (HS2.out.kept hb3)
      have HB3 := Lib.hid (bl_then HB2.out hb3)
      clear hb3
      go_wp2_with fail
      refine (RL.out _ _ HS3.out).mono ?_
      rintro e w4 ⟨hr, hb4⟩
      have HB4 := Lib.hid (bl_then HB3.out hb4)
      clear hb4
      rcases hr with ⟨_, rfl⟩ | ⟨m, hm, rfl⟩
      · go_wp2_with fail
        refine (AW.out _ (HG.out.kept HB4.out)).mono ?_
        rintro e w5 ⟨rfl, hb5⟩
        have HB5 := Lib.hid (bl_then HB4.out hb5)
        clear hb5
        go_wp2_with fail
        go_ret
        exact ⟨rfl, HB5.out⟩
      · exfalso
        have h1 := LF.out m hm
        have h2 := (hm.can_iff 1000).1 HC.out
        omega
    · have HM := Lib.hid hm
      clear hm HR
      obtain ⟨s, hs⟩ : ∃ s, s = bs (wayL T m 0) := ⟨_, rfl⟩
      rw [← hs]
      have HSS := Lib.hid hs
      clear hs
      go_wp2_with fail
      refine (SE.out _ _ HS2.out).mono ?_
      rintro e w3 ⟨rfl, hb3⟩
      have HS3 := Lib.hid (HS2.out.kept hb3)
      have HB3 := Lib.hid (bl_then HB2.out hb3)
      clear hb3
      go_wp2_with fail
      refine (RL.out _ _ HS3.out).mono ?_
      rintro e w4 ⟨hr, hb4⟩
      have HB4 := Lib.hid (bl_then HB3.out hb4)
      clear hb4
      rcases hr with ⟨hc, rfl⟩ | ⟨m', hm', rfl⟩
      · exfalso
        have h1 := LF.out m HM.out
        have h2 := (HM.out.can_iff 1000).1 hc
        omega
      · have e : m' = m := by have := hm'.one HM.out; omega
        subst e
        rw [← HSS.out]
        clear hm'
        go_wp2_with fail
        refine (AW.out _ (HG.out.kept HB4.out)).mono ?_
        rintro e w5 ⟨rfl, hb5⟩
        have HB5 := Lib.hid (bl_then HB4.out hb5)
        clear hb5
        go_wp2_with fail
        go_ret
        exact ⟨rfl, HB5.out⟩
end Go.Proofs.Ytpclkocfbkjabaa
