/-
  The law TreadLoops: the walk.
-/
import Derived.Test.YtpclkocfbkjabaaT38
namespace Go.Proofs.Ytpclkocfbkjabaa
open Go.RowKit Go.Shelf
set_option linter.unusedVariables false
set_option linter.unusedSimpArgs false

set_option maxRecDepth 100000 in
set_option maxHeartbeats 4000000 in
theorem TreadLoops_walk (n : Int) (v : Value) (ss : List ByteArray) (W : World) (hn : (Lit.int .i64 n).wf = true) (hv : StrsAt W v ss) (hl : ss.length * 16 ≤ 140737488351232) (hz : ∀ s ∈ ss, s.size ≤ maxLen) (hG : HasG W) :
    Calls Try.prog 4 #[.int .i64 n, v] W fun e w' => e = .returned (.bool true) ∧ Below W.heap.size W w' := by
  have PT := Lib.hid fun W h => patterns_any v ss W h hz
  have HV := Lib.hid hv
  obtain ⟨l, hl⟩ : ∃ l, l = patC ss := ⟨_, rfl⟩
  have h13 : l.length ≤ 13 := by rw [hl]; exact patC_len ss
  have h6 : ∀ s ∈ l, s.size ≤ 6 := by rw [hl]; exact patC_size ss
  rw [← hl] at PT
  have AW := Lib.hid fun W h => awake_any W h
  have HG := Lib.hid hG
  have SE := Lib.hid fun v W h => Set_any n v l W h (fun s hs => Nat.le_trans (h6 s hs) (by omega))
  clear hG hv hz hl
  cases hset : setB n l with
  | false =>
    have LO := Lib.hid fun v W h => Loop_no n v l W h hset
    rw [hset] at SE
    clear hset
    go_enter Try.func4, Try.ntmps4
    go_wp2_with fail
    refine (PT.out _ HV.out).mono ?_
    rintro e w1 ⟨v1, rfl, ho1, hb1⟩
    have HS1 := Lib.hid (strs_own ho1 (by omega))
    have HB1 := Lib.hid hb1
    clear ho1 hb1
    go_wp2_with fail
    refine (LO.out _ _ HS1.out).mono ?_
    rintro e w2 ⟨rfl, hb2⟩
    have HS2 := Lib.hid (HS1.out.kept hb2)
    have HB2 := Lib.hid (bl_then HB1.out hb2)
    clear hb2
    go_wp2_with fail
    refine (SE.out _ _ HS2.out).mono ?_
    rintro e w3 ⟨rfl, hb3⟩
    have HB3 := Lib.hid (bl_then HB2.out hb3)
    clear hb3
    go_wp2_with fail
    refine (AW.out _ (HG.out.kept HB3.out)).mono ?_
    rintro e w5 ⟨rfl, hb5⟩
    have HB5 := Lib.hid (bl_then HB3.out hb5)
    clear hb5
    go_wp2_with fail
    go_ret
    exact ⟨rfl, HB5.out⟩
  | true =>
    obtain ⟨q, rfl⟩ : ∃ q : Nat, n = q := ⟨n.toNat, by have := (setB_parts hset).1; omega⟩
    have hq : 1 ≤ q ∧ q ≤ 3 := by have := (setB_parts hset).1; omega
    have h0 := ok_nil (pats_some hset)
    obtain ⟨S, hS⟩ : ∃ S, S = stL (pats l) q := ⟨_, rfl⟩
    obtain ⟨T, hT⟩ : ∃ T, T = tabL (pats l) q := ⟨_, rfl⟩
    obtain ⟨N, hN⟩ : ∃ N, N = S.length := ⟨_, rfl⟩
    have LO := Lib.hid fun v W h h2 => Loop_any q N v l W T S hT hS hN h hset h2
    have RL := Lib.hid fun v W h => RLoop_any q N hq v l W T S hT hS hN h (fun s hs => Nat.le_trans (h6 s hs) (by omega)) (by omega) h0
    have EI := Lib.hid fun (m : Nat) (h : Lng T 0 m) => ends_iff (m := m) (N := N) (q := q) (by rw [hT, hN, hS]; exact tab_ok h0) (by rw [hN, hS, stL_fix h0]; simp) (by rw [hN, hS]; exact stL_few (pats l) hq.2) h
    have EN := Lib.hid fun (h : Lng T 0 (-1)) => show endsB T = false by unfold endsB; rw [(h.can_iff 1000).2 (.inl (by decide))]; rfl
    rw [hset] at SE
    clear hset h0 hT hS hN
    go_enter Try.func4, Try.ntmps4
    go_wp2_with fail
    refine (PT.out _ HV.out).mono ?_
    rintro e w1 ⟨v1, rfl, ho1, hb1⟩
    have HS1 := Lib.hid (strs_own ho1 (by omega))
    have HB1 := Lib.hid hb1
    clear ho1 hb1
    go_wp2_with fail
    refine (LO.out _ _ HS1.out (HG.out.kept HB1.out)).mono ?_
    rintro e w2 ⟨hr, hb2⟩
    have HS2 := Lib.hid (HS1.out.kept hb2)
    have HB2 := Lib.hid (bl_then HB1.out hb2)
    have HR := Lib.hid hr
    clear hb2
    rcases hr with ⟨m, hm, rfl⟩ | ⟨hc, n, hn1, hn2, hn3, hn4, rfl⟩
    · have HE := Lib.hid (EI.out m hm)
      clear hm HR
      go_wp2_with fail
      refine (SE.out _ _ HS2.out).mono ?_
      rintro e w3 ⟨rfl, hb3⟩
      have HS3 := Lib.hid (HS2.out.kept hb3)
      have HB3 := Lib.hid (bl_then HB2.out hb3)
      clear hb3
      go_wp2_with fail
      refine (RL.out _ _ HS3.out).mono ?_
      rintro e w4 ⟨hr, hb4⟩
      have HB4 := Lib.hid (bl_then HB3.out hb4)
      clear hb4
      rcases hr with ⟨_, rfl⟩ | ⟨he, _⟩
      · go_wp2_with fail
        refine (AW.out _ (HG.out.kept HB4.out)).mono ?_
        rintro e w5 ⟨rfl, hb5⟩
        have HB5 := Lib.hid (bl_then HB4.out hb5)
        clear hb5
        go_wp2_with fail
        go_ret
        exact ⟨rfl, HB5.out⟩
      · rw [HE.out] at he; cases he
    · have HE := Lib.hid (EN.out hc)
      have HLS := Lib.hid fun best (h : BestAt T N N best) => h.last hn1 hn2 hn3 hn4
      clear hc HR hn1 hn2 hn3 hn4
      obtain ⟨s, hs⟩ : ∃ s, s = bs (bestN T n N) := ⟨_, rfl⟩
      rw [← hs]
      have HSS := Lib.hid hs
      clear hs
      go_wp2_with fail
      refine (SE.out _ _ HS2.out).mono ?_
      rintro e w3 ⟨rfl, hb3⟩
      have HS3 := Lib.hid (HS2.out.kept hb3)
      have HB3 := Lib.hid (bl_then HB2.out hb3)
      clear hb3
      go_wp2_with fail
      refine (RL.out _ _ HS3.out).mono ?_
      rintro e w4 ⟨hr, hb4⟩
      have HB4 := Lib.hid (bl_then HB3.out hb4)
      clear hb4
      rcases hr with ⟨he, rfl⟩ | ⟨_, best, hb, rfl⟩
      · rw [HE.out] at he; cases he
      · rw [HLS.out best hb, ← HSS.out]
        clear hb
        go_wp2_with fail
        refine (AW.out _ (HG.out.kept HB4.out)).mono ?_
        rintro e w5 ⟨rfl, hb5⟩
        have HB5 := Lib.hid (bl_then HB4.out hb5)
        clear hb5
        go_wp2_with fail
        go_ret
        exact ⟨rfl, HB5.out⟩
end Go.Proofs.Ytpclkocfbkjabaa
