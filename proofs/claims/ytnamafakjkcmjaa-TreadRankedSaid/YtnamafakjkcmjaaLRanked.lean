/-
  The law TreadRanked: the walk. (Printed by tools/genLRanked.py.)
-/
import Derived.Test.YtnamafakjkcmjaaT71
import Derived.Test.YtnamafakjkcmjaaT25
namespace Go.Proofs.Ytnamafakjkcmjaa
open Go.RowKit Go.Shelf
set_option linter.unusedVariables false
set_option linter.unusedSimpArgs false

set_option maxRecDepth 100000 in
set_option maxHeartbeats 4000000 in
theorem TreadRanked_walk (x : Int) (v : Value) (ss : List ByteArray) (n k : Int) (W : World) (hx : (Lit.int .i64 x).wf = true) (hv : StrsAt W v ss) (hl : ss.length * 16 ≤ 140737488351232) (hz : ∀ s ∈ ss, s.size ≤ maxLen) (hn : (Lit.int .i64 n).wf = true) (hk : (Lit.int .i64 k).wf = true) (hG : HasG W) :
    Calls Try.prog 6 #[.int .i64 x, v, .int .i64 n, .int .i64 k] W fun e w' => e = .returned (.bool true) ∧ Below W.heap.size W w' := by
  have TM := Lib.hid fun W h => tame_any x v ss 12 W h hl hz (by omega)
  have HV := Lib.hid hv
  have AW := Lib.hid fun W h => awake_any W h
  have HG := Lib.hid hG
  have MB := Lib.hid fun W => mod_any n 61 W (by omega)
  clear hG hv hz hl hx hn hk
  go_enter Try.func6, Try.ntmps6
  go_wp2_with fail
  refine (TM.out _ HV.out).mono ?_
  rintro e w1 ⟨q, v1, rfl, hq, ⟨L, hs1, hset, hL12, hnil⟩, hb1⟩
  have HB1 := Lib.hid hb1
  have HS1 := Lib.hid hs1
  obtain ⟨T, hT⟩ : ∃ T, T = tabL (pats L) q := ⟨_, rfl⟩
  have HSET := Lib.hid hset
  have HT := Lib.hid hT
  have h5 : ∀ p ∈ L, p.size ≤ 1000 := fun p hp => by have := ((setB_iff.1 hset).2.2.1 p hp).2.1; omega
  have LT := Lib.hid fun s W h => Letters_any q hq.2 s W h
  have AV := Lib.hid fun s W h h2 => Avoids_any v1 L s W h h5 (by omega) h2
  clear hs1 hb1 hset hT h5
  go_wp2_with fail
  refine (MB.out _).mono ?_
  rintro e w98 ⟨⟨Z, hZ, rfl⟩, rfl⟩
  have CO := Lib.hid fun W h h2 => Count_any q Z v1 L W T HT.out h HSET.out (by omega) h2
  go_wp2_with fail
  refine (CO.out _ HS1.out (HG.out.kept HB1.out)).mono ?_
  rintro e w2 ⟨hr, hb2⟩
  have HB2 := Lib.hid (bl_then HB1.out hb2)
  have HS2 := Lib.hid (HS1.out.kept hb2)
  clear hb2
  rcases hr with ⟨hf, rfl⟩ | ⟨hf, rfl⟩
  · clear hf
    go_wp2_with fail
    refine (AW.out _ (HG.out.kept HB2.out)).mono ?_
    rintro e w99 ⟨rfl, hb99⟩
    have HB99 := Lib.hid (bl_then HB2.out hb99)
    clear hb99
    go_wp2_with fail
    go_ret
    exact ⟨rfl, HB99.out⟩
  · have HF := Lib.hid hf
    have hC := (few_len hf (Nat.le_refl Z)).2
    have hC2 := (few_len hf (Nat.le_refl Z)).1
    obtain ⟨C, hCd⟩ : ∃ C, C = (accL T Z 0).length := ⟨_, rfl⟩
    rw [hC, ← hCd]
    rw [← hCd] at hC2
    have HCD := Lib.hid hCd
    by_cases hC0 : C = 0
    · subst hC0
      clear hf hC hC2 hCd
      go_wp2_with fail
      refine (AW.out _ (HG.out.kept HB2.out)).mono ?_
      rintro e w99 ⟨rfl, hb99⟩
      have HB99 := Lib.hid (bl_then HB2.out hb99)
      clear hb99
      go_wp2_with fail
      go_ret
      exact ⟨rfl, HB99.out⟩
    · have MK := Lib.hid fun W => mod_big k C W ⟨by omega, by have h : most1 = 1152921504606846977 := rfl; omega⟩
      have hCi : ¬ (C : Int) = 0 := by omega
      have hCb : ((C : Int) == 0) = false := beq_false_of_ne hCi
      clear hf hC hC2 hCd
      go_wp2_with fail
      refine (MK.out _).mono ?_
      rintro e w98 ⟨⟨r, hr, rfl⟩, rfl⟩
      obtain ⟨s, hs⟩ : ∃ s, (accL T Z 0)[r]? = some s := ⟨_, List.getElem?_eq_getElem (by rw [← HCD.out]; exact hr)⟩
      obtain ⟨g1, g2, g3, _, _⟩ := acc_is q Z L HT.out HSET.out hs
      have HSS := Lib.hid hs
      have hsz : (bs s).size = Z := g1
      have IT1 := Lib.hid fun W h h2 => Item_at q Z v1 L r s W T HT.out h HSET.out (by omega) h2 HF.out HSS.out
      have IX1 := Lib.hid fun W h h2 => Index_at q Z v1 L r s W T HT.out h HSET.out (by omega) h2 HF.out HSS.out
      have LT1 := Lib.hid fun W => LT.out (bs s) W (by omega)
      rw [show lettB q (sb (bs s)) = true from (lettB_iff hq.2 s).2 g2] at LT1
      have AV1 := Lib.hid fun W h => AV.out (bs s) W h (by omega)
      rw [show okL (pats L) (sb (bs s)) = true from g3] at AV1
      clear hs g1 g2 g3
      go_wp2_with fail
      refine (IT1.out _ HS2.out (HG.out.kept HB2.out)).mono ?_
      rintro e w3 ⟨rfl, hb3⟩
      have HB3 := Lib.hid (bl_then HB2.out hb3)
      have HS3 := Lib.hid (HS2.out.kept hb3)
      clear hb3
      go_wp2_with fail
      refine (LT1.out _).mono ?_
      rintro e w98 ⟨rfl, rfl⟩
      go_wp2_with fail
      refine (AV1.out _ HS3.out).mono ?_
      rintro e w98 ⟨rfl, rfl⟩
      go_wp2_with fail
      refine (IX1.out _ HS3.out (HG.out.kept HB3.out)).mono ?_
      rintro e w4 ⟨rfl, hb4⟩
      have HB4 := Lib.hid (bl_then HB3.out hb4)
      have HS4 := Lib.hid (HS3.out.kept hb4)
      clear hb4
      obtain ⟨r1, hr1⟩ : ∃ r1, r1 = r + 1 := ⟨_, rfl⟩
      have hr2 : (r : Int) + 1 = (r1 : Int) := by omega
      have hr3 : IntKind.i64.wrap (r1 : Int) = (r1 : Int) := wrapI (by
        have h1 := (few_len HF.out (Nat.le_refl Z)).1
        rw [← HCD.out] at h1
        have h : most1 = 1152921504606846977 := rfl
        omega)
      by_cases hlt : r1 < C
      · have hlt' : (r1 : Int) < (C : Int) := by omega
        obtain ⟨t, ht⟩ : ∃ t, (accL T Z 0)[r1]? = some t := ⟨_, List.getElem?_eq_getElem (by rw [← HCD.out]; exact hlt)⟩
        have HTT := Lib.hid ht
        have hst := acc_up q Z L HT.out HSET.out HSS.out ht (by omega)
        have hls : Op.bytesLess t s = false := by
          cases h : Op.bytesLess t s with
          | false => rfl
          | true =>
            have h2 := (less_iff (bs t) (bs s)).1 (by rw [bs_toList, bs_toList]; exact h)
            exact absurd (str_trans hst h2) (str_irrefl s)
        have hne : (t == s) = false := beq_false_of_ne (fun e => by rw [e] at hst; exact str_irrefl s hst)
        have hts := bs_toList s
        have htt := bs_toList t
        have IT2 := Lib.hid fun W h h2 => Item_at q Z v1 L r1 t W T HT.out h HSET.out (by omega) h2 HF.out HTT.out
        clear ht hst hr1
        go_wp2_with fail
        refine (IT2.out _ HS4.out (HG.out.kept HB4.out)).mono ?_
        rintro e w5 ⟨rfl, hb5⟩
        have HB5 := Lib.hid (bl_then HB4.out hb5)
        have HS5 := Lib.hid (HS4.out.kept hb5)
        clear hb5
        go_wp2_with fail
        refine (AW.out _ (HG.out.kept HB5.out)).mono ?_
        rintro e w99 ⟨rfl, hb99⟩
        have HB99 := Lib.hid (bl_then HB5.out hb99)
        clear hb99
        go_wp2_with fail
        go_ret
        exact ⟨rfl, HB99.out⟩
      · have hlt' : ¬ (r1 : Int) < (C : Int) := by omega
        clear hr1
        go_wp2_with fail
        refine (AW.out _ (HG.out.kept HB4.out)).mono ?_
        rintro e w99 ⟨rfl, hb99⟩
        have HB99 := Lib.hid (bl_then HB4.out hb99)
        clear hb99
        go_wp2_with fail
        go_ret
        exact ⟨rfl, HB99.out⟩
end Go.Proofs.Ytnamafakjkcmjaa
