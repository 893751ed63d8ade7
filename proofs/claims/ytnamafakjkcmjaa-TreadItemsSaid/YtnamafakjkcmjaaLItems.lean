/-
  The law TreadItems: the walk. (Printed by tools/genLItems.py.)
-/
import Derived.Test.YtnamafakjkcmjaaT66
import Derived.Test.YtnamafakjkcmjaaT63
import Derived.Test.YtnamafakjkcmjaaT70
import Derived.Test.YtnamafakjkcmjaaT25
import Derived.Test.YtnamafakjkcmjaaMD
namespace Go.Proofs.Ytnamafakjkcmjaa
open Go.RowKit Go.Shelf
set_option linter.unusedVariables false
set_option linter.unusedSimpArgs false

set_option maxRecDepth 100000 in
set_option maxHeartbeats 4000000 in
theorem TreadItems_walk (n : Int) (v : Value) (ss : List ByteArray) (m k : Int) (W : World) (hn : (Lit.int .i64 n).wf = true) (hv : StrsAt W v ss) (hl : ss.length * 16 ≤ 140737488351232) (hz : ∀ s ∈ ss, s.size ≤ maxLen) (hm : (Lit.int .i64 m).wf = true) (hk : (Lit.int .i64 k).wf = true) (hG : HasG W) :
    Calls Try.prog 5 #[.int .i64 n, v, .agg #[.int .i64 m, .int .i64 k]] W fun e w' => e = .returned (.bool true) ∧ Below W.heap.size W w' := by
  obtain ⟨W0, hW0⟩ : ∃ W0, W0 = W.alloc (.cells #[.int .i64 m, .int .i64 k] 38) := ⟨_, rfl⟩
  have hb0 : Below W.heap.size W W0 := by rw [hW0]; exact bl_alloc (bl_refl W) _
  have hx : Whole W0 W.heap.size 38 #[.int .i64 m, .int .i64 k] := by rw [hW0]; exact Whole.new W _ _
  have HX : Hid (∀ W', Below W0.heap.size W0 W' → W'.cell? ⟨W.heap.size, 0, none⟩ = some (.int .i64 m) ∧ W'.cell? ⟨W.heap.size, 1, none⟩ = some (.int .i64 k) ∧ W.heap.size < W'.heap.size) := Lib.hid fun W' hb => by
    have := hx.kept hb
    exact ⟨(this.cell 0).trans rfl, (this.cell 1).trans rfl, this.lt⟩
  have PT := Lib.hid fun W h => patterns_any v ss W h hz
  have HV := Lib.hid (hv.kept hb0)
  obtain ⟨l, hl⟩ : ∃ l, l = patC ss := ⟨_, rfl⟩
  have h13 : l.length ≤ 13 := by rw [hl]; exact patC_len ss
  have h6 : ∀ s ∈ l, s.size ≤ 6 := by rw [hl]; exact patC_size ss
  rw [← hl] at PT
  have AW := Lib.hid fun W h => awake_any W h
  have HG := Lib.hid hG
  have HB0 := Lib.hid hb0
  have HW0 := Lib.hid hW0
  have SE := Lib.hid fun v W h => Set_any n v l W h (fun s hs => Nat.le_trans (h6 s hs) (by omega))
  clear hG hv hz hl hn hk hm hb0 hx hW0
  by_cases hbad : setB n l = false ∨ m < 0 ∨ 60 < m
  · have IX := Lib.hid fun v W h => Item_no n m k v l W h hbad
    have HBAD := Lib.hid hbad
    clear hbad
    go_enter Try.func5, Try.ntmps5
    go_wp2_with fail
    rw [← HW0.out]
    refine (PT.out _ HV.out).mono ?_
    rintro e w1 ⟨v1, rfl, ho1, hb1⟩
    obtain ⟨x1, x2, x3⟩ := HX.out w1 hb1
    have HS1a := Lib.hid (strs_own ho1 (by omega))
    have HB1a := Lib.hid (bl_then HB0.out hb1)
    clear ho1 hb1
    go_wp2_with fail
    go_quiet (fail)
    obtain ⟨W1, hW1⟩ : ∃ W1, W1 = w1.drewN nq := ⟨_, rfl⟩
    have HS1 : Hid (StrsAt W1 v1 l) := Lib.hid (by rw [hW1]; exact HS1a.out.kept (bl_drewN (bl_refl w1) nq))
    have HB1 : Hid (Below W.heap.size W W1) := Lib.hid (by rw [hW1]; exact bl_drewN HB1a.out nq)
    have HWN := Lib.hid hW1
    clear x1 x2 x3 hW1
    go_wp2_with fail
    rw [← HWN.out]
    refine (IX.out _ _ HS1.out).mono ?_
    rintro e w2 ⟨rfl, hb2⟩
    have HB2 := Lib.hid (bl_then HB1.out hb2)
    have HS2 := Lib.hid (HS1.out.kept hb2)
    clear hb2
    go_wp2_with fail
    refine (SE.out _ _ HS2.out).mono ?_
    rintro e w3 ⟨rfl, hb3⟩
    have HB3 := Lib.hid (bl_then HB2.out hb3)
    have HS3 := Lib.hid (HS2.out.kept hb3)
    clear hb3
    cases hset : setB n l with
    | false =>
      clear hset
      go_wp2_with fail
      refine (AW.out _ (HG.out.kept HB3.out)).mono ?_
      rintro e w99 ⟨rfl, hb99⟩
      have HB99 := Lib.hid (bl_then HB3.out hb99)
      clear hb99
      go_wp2_with fail
      go_ret
      exact ⟨rfl, HB99.out⟩
    | true =>
      have hq := (setB_parts hset).1
      have hmm : m < 0 ∨ 60 < m := by
        rcases HBAD.out with h | h
        · rw [hset] at h; cases h
        · exact h
      clear hset hq
      by_cases hm0 : m < 0
      · clear hmm
        go_wp2_with fail
        refine (AW.out _ (HG.out.kept HB3.out)).mono ?_
        rintro e w99 ⟨rfl, hb99⟩
        have HB99 := Lib.hid (bl_then HB3.out hb99)
        clear hb99
        go_wp2_with fail
        go_ret
        exact ⟨rfl, HB99.out⟩
      · have hm6 : 60 < m := by omega
        clear hmm
        go_wp2_with fail
        refine (AW.out _ (HG.out.kept HB3.out)).mono ?_
        rintro e w99 ⟨rfl, hb99⟩
        have HB99 := Lib.hid (bl_then HB3.out hb99)
        clear hb99
        go_wp2_with fail
        go_ret
        exact ⟨rfl, HB99.out⟩
  · have hset : setB n l = true := by
      cases h : setB n l with
      | true => rfl
      | false => exact absurd (.inl h) hbad
    have hm0 : ¬ m < 0 := fun h => hbad (.inr (.inl h))
    have hm6 : ¬ 60 < m := fun h => hbad (.inr (.inr h))
    clear hbad
    have hq := (setB_parts hset).1
    obtain ⟨q, rfl⟩ : ∃ q : Nat, n = q := ⟨n.toNat, by omega⟩
    obtain ⟨Z, rfl⟩ : ∃ Z : Nat, m = Z := ⟨m.toNat, by omega⟩
    have hq3 : 1 ≤ q ∧ q ≤ 3 := by omega
    have h0 := ok_nil (pats_some hset)
    obtain ⟨T, hT⟩ : ∃ T, T = tabL (pats l) q := ⟨_, rfl⟩
    have IX := Lib.hid fun v W h h2 => Item_any q Z k v l W T hT h hset (by omega) h2
    have RC := Lib.hid fun v W h => RCount_any q Z hq3 (by omega) v l W T hT h (fun s hs => Nat.le_trans (h6 s hs) (by omega)) (by omega) h0
    have RX := Lib.hid fun v (K : Nat) W h hfew hK => RItem_any q Z K hq3 (by omega) v l W T hT h (fun s hs => Nat.le_trans (h6 s hs) (by omega)) (by omega) h0 hfew hK
    rw [hset] at SE
    clear hset hq h0 hT
    go_enter Try.func5, Try.ntmps5
    go_wp2_with fail
    rw [← HW0.out]
    refine (PT.out _ HV.out).mono ?_
    rintro e w1 ⟨v1, rfl, ho1, hb1⟩
    obtain ⟨x1, x2, x3⟩ := HX.out w1 hb1
    have HS1a := Lib.hid (strs_own ho1 (by omega))
    have HB1a := Lib.hid (bl_then HB0.out hb1)
    clear ho1 hb1
    go_wp2_with fail
    go_quiet (fail)
    obtain ⟨W1, hW1⟩ : ∃ W1, W1 = w1.drewN nq := ⟨_, rfl⟩
    have HS1 : Hid (StrsAt W1 v1 l) := Lib.hid (by rw [hW1]; exact HS1a.out.kept (bl_drewN (bl_refl w1) nq))
    have HB1 : Hid (Below W.heap.size W W1) := Lib.hid (by rw [hW1]; exact bl_drewN HB1a.out nq)
    have HWN := Lib.hid hW1
    clear x1 x2 x3 hW1
    go_wp2_with fail
    rw [← HWN.out]
    refine (IX.out _ _ HS1.out (HG.out.kept HB1.out)).mono ?_
    rintro e w2 ⟨hr, hb2⟩
    have HB2 := Lib.hid (bl_then HB1.out hb2)
    have HS2 := Lib.hid (HS1.out.kept hb2)
    clear hb2
    unfold ItemRes at hr
    rcases hr with ⟨hf, rfl⟩ | ⟨hf, hK, rfl⟩ | ⟨K, s, hf, rfl, hs, rfl⟩
    · have HF := Lib.hid hf
      clear hf
      go_wp2_with fail
      refine (SE.out _ _ HS2.out).mono ?_
      rintro e w3 ⟨rfl, hb3⟩
      have HB3 := Lib.hid (bl_then HB2.out hb3)
      have HS3 := Lib.hid (HS2.out.kept hb3)
      clear hb3
      go_wp2_with fail
      refine (RC.out _ _ HS3.out).mono ?_
      rintro e w4 ⟨hr, hb4⟩
      have HB4 := Lib.hid (bl_then HB3.out hb4)
      have HS4 := Lib.hid (HS3.out.kept hb4)
      clear hb4
      rcases hr with ⟨he, rfl⟩ | ⟨he, rfl⟩
      · clear he
        go_wp2_with fail
        refine (AW.out _ (HG.out.kept HB4.out)).mono ?_
        rintro e w99 ⟨rfl, hb99⟩
        have HB99 := Lib.hid (bl_then HB4.out hb99)
        clear hb99
        go_wp2_with fail
        go_ret
        exact ⟨rfl, HB99.out⟩
      · rw [HF.out] at he; cases he
    · have HF := Lib.hid hf
      clear hf
      have HKK := Lib.hid hK
      clear hK
      go_wp2_with fail
      refine (SE.out _ _ HS2.out).mono ?_
      rintro e w3 ⟨rfl, hb3⟩
      have HB3 := Lib.hid (bl_then HB2.out hb3)
      have HS3 := Lib.hid (HS2.out.kept hb3)
      clear hb3
      go_wp2_with fail
      refine (RC.out _ _ HS3.out).mono ?_
      rintro e w4 ⟨hr, hb4⟩
      have HB4 := Lib.hid (bl_then HB3.out hb4)
      have HS4 := Lib.hid (HS3.out.kept hb4)
      clear hb4
      rcases hr with ⟨he, rfl⟩ | ⟨he, rfl⟩
      · rw [HF.out] at he; cases he
      · clear he
        have hx := (few_len HF.out (Nat.le_refl Z)).2
        obtain ⟨x, hxx⟩ : ∃ x, x = cntT T Z 0 := ⟨_, rfl⟩
        rw [← hxx] at hx ⊢
        by_cases hk0 : k < 0
        · clear hx hxx
          go_wp2_with fail
          refine (AW.out _ (HG.out.kept HB4.out)).mono ?_
          rintro e w99 ⟨rfl, hb99⟩
          have HB99 := Lib.hid (bl_then HB4.out hb99)
          clear hb99
          go_wp2_with fail
          go_ret
          exact ⟨rfl, HB99.out⟩
        · have hkx : x ≤ k := by
            have := HKK.out
            omega
          clear hx hxx
          go_wp2_with fail
          refine (AW.out _ (HG.out.kept HB4.out)).mono ?_
          rintro e w99 ⟨rfl, hb99⟩
          have HB99 := Lib.hid (bl_then HB4.out hb99)
          clear hb99
          go_wp2_with fail
          go_ret
          exact ⟨rfl, HB99.out⟩
    · have HF := Lib.hid hf
      clear hf
      have HSS := Lib.hid hs
      clear hs
      go_wp2_with fail
      refine (SE.out _ _ HS2.out).mono ?_
      rintro e w3 ⟨rfl, hb3⟩
      have HB3 := Lib.hid (bl_then HB2.out hb3)
      have HS3 := Lib.hid (HS2.out.kept hb3)
      clear hb3
      go_wp2_with fail
      refine (RC.out _ _ HS3.out).mono ?_
      rintro e w4 ⟨hr, hb4⟩
      have HB4 := Lib.hid (bl_then HB3.out hb4)
      have HS4 := Lib.hid (HS3.out.kept hb4)
      clear hb4
      rcases hr with ⟨he, rfl⟩ | ⟨he, rfl⟩
      · rw [HF.out] at he; cases he
      · clear he
        have hx := (few_len HF.out (Nat.le_refl Z)).2
        have hKL : K < (accL T Z 0).length := (List.getElem?_eq_some_iff.1 HSS.out).1
        have HKL := Lib.hid hKL
        obtain ⟨x, hxx⟩ : ∃ x, x = cntT T Z 0 := ⟨_, rfl⟩
        rw [← hxx] at hx ⊢
        have hk0 : ¬ (K : Int) < 0 := by omega
        have hkx : ¬ x ≤ (K : Int) := by omega
        clear hx hxx hKL
        go_wp2_with fail
        refine (RX.out _ _ _ HS4.out HF.out HKL.out).mono ?_
        rintro e w5 ⟨hr, hb5⟩
        have HB5 := Lib.hid (bl_then HB4.out hb5)
        clear hb5
        obtain ⟨s2, hs2, rfl⟩ := hr
        rw [HSS.out] at hs2
        injection hs2 with hs2
        subst hs2
        go_wp2_with fail
        refine (AW.out _ (HG.out.kept HB5.out)).mono ?_
        rintro e w99 ⟨rfl, hb99⟩
        have HB99 := Lib.hid (bl_then HB5.out hb99)
        clear hb99
        go_wp2_with fail
        go_ret
        exact ⟨rfl, HB99.out⟩
end Go.Proofs.Ytnamafakjkcmjaa
