/-
  The law TreadBrute: the walk. (Printed by tools/genLBrute.py.)
-/
import Derived.Test.YtnamafakjkcmjaaLExtended
import Derived.Test.YtnamafakjkcmjaaT29
namespace Go.Proofs.Ytnamafakjkcmjaa
open Go.RowKit Go.Shelf
set_option linter.unusedVariables false
set_option linter.unusedSimpArgs false

theorem own_any2 {w : World} {base : Nat} {e : TypeId} {size : Nat} {v : Value} {n : Nat} {xs : List Value} (h : w.ownsRow base e size v n xs) : ∃ A c, v = .slice A n c := by
  rcases h.2 with ⟨rfl, h0⟩ | ⟨g, cap, cur, rfl, _⟩
  · exact ⟨none, 0, by rw [h0]⟩
  · exact ⟨_, _, rfl⟩
/-- The words up to a place that avoid a set. -/
def someL (set : List Str) (q n i : Nat) : List Str := ((wordsL q n).take i).filter (okL set)
theorem some_yes {set : List Str} {q n i : Nat} {s : Str} (hi : (wordsL q n)[i]? = some s) (h : okL set s = true) : someL set q n (i + 1) = someL set q n i ++ [s] := by
  obtain ⟨h1, h2⟩ := List.getElem?_eq_some_iff.1 hi
  unfold someL
  rw [List.take_succ_eq_append_getElem h1, List.filter_append, h2]
  simp [h]
theorem some_no {set : List Str} {q n i : Nat} {s : Str} (hi : (wordsL q n)[i]? = some s) (h : okL set s = false) : someL set q n (i + 1) = someL set q n i := by
  obtain ⟨h1, h2⟩ := List.getElem?_eq_some_iff.1 hi
  unfold someL
  rw [List.take_succ_eq_append_getElem h1, List.filter_append, h2]
  simp [h]
theorem some_len (set : List Str) (q n i : Nat) : (someL set q n i).length ≤ i := by
  unfold someL
  exact Nat.le_trans (List.length_filter_le _ _) (by rw [List.length_take]; omega)
theorem some_all {ss : List ByteArray} {q n : Nat} (hset : setB q ss = true) : someL (pats ss) q n (wordsL q n).length = accL (tabL (pats ss) q) n 0 := by
  have hq : 1 ≤ q ∧ q ≤ 3 := by have := (setB_parts hset).1; omega
  unfold someL
  rw [List.take_length, acc_words (ok_nil (pats_some hset)) (pats_five hset) hq.2]
/-- Extend of no letters. -/
theorem Extend_first (q n : Nat) (v : Value) (ss : List ByteArray) (w : World) (T : Tab) (hT : T = tabL (pats ss) q) (hv : StrsAt w v ss) (hset : setB q ss = true) (hn : n ≤ 60) (hG : HasG w) :
    Calls Try.prog 27 #[.int .i64 q, v, .string ⟨#[]⟩, .int .i64 n] w fun e w' => ((accL T n 0 = [] ∧ e = .returned (.tuple #[.string ⟨#[]⟩, .int .i64 6])) ∨ ∃ x, (accL T n 0)[0]? = some x ∧ e = .returned (.tuple #[.string (bs x), .int .i64 0])) ∧ Below w.heap.size w w' := by
  refine (Extend_any q n v ss [] w T hT hv hset hn (Nat.zero_le _) rfl hG).mono ?_
  rintro e w' ⟨⟨h1 | ⟨i, h1, h2⟩, h3⟩ | ⟨i, h1, h2, h3⟩, hb⟩
  · rw [run_nil] at h1; cases h1
  · rw [run_nil] at h1
    cases h1
    refine ⟨.inl ⟨?_, h3⟩, hb⟩
    apply Classical.byContradiction
    intro hne
    rw [show n - List.length ([] : Str) = n from rfl, (can_acc n 0).2 hne] at h2
    cases h2
  · rw [run_nil] at h1
    cases h1
    refine ⟨.inr ⟨wayL T n 0, ?_, h3⟩, hb⟩
    have h := acc_head (T := T) n 0 h2
    rw [← List.head?_eq_getElem?]
    exact h
set_option maxRecDepth 100000 in
set_option maxHeartbeats 4000000 in
theorem TreadBrute_walk (x0 : Int) (v : Value) (ss : List ByteArray) (n k : Int) (W : World) (hx : (Lit.int .i64 x0).wf = true) (hv : StrsAt W v ss) (hl : ss.length * 16 ≤ 140737488351232) (hz : ∀ s ∈ ss, s.size ≤ maxLen) (hn : (Lit.int .i64 n).wf = true) (hk : (Lit.int .i64 k).wf = true) (hG : HasG W) :
    Calls Try.prog 8 #[.int .i64 x0, v, .int .i64 n, .int .i64 k] W fun e w' => e = .returned (.bool true) ∧ Below W.heap.size W w' := by
  obtain ⟨i0, hi, hz0, hz1, hz2⟩ := info_parts infoS
  have TM := Lib.hid fun W h => tame_any x0 v ss 12 W h hl hz (by omega)
  have HV := Lib.hid hv
  have AW := Lib.hid fun W h => awake_any W h
  have HG := Lib.hid hG
  have MB := Lib.hid fun W => mod_any n 6 W (by omega)
  clear hG hv hz hl hx hn hk
  go_enter Try.func8, Try.ntmps8
  go_wp2_with fail
  refine (TM.out _ HV.out).mono ?_
  rintro e w1 ⟨q, v1, rfl, hq, ⟨L, hs1, hset, hL12, hnil⟩, hb1⟩
  have HB1 := Lib.hid hb1
  have HS1 := Lib.hid hs1
  obtain ⟨T, hT⟩ : ∃ T, T = tabL (pats L) q := ⟨_, rfl⟩
  have HSET := Lib.hid hset
  have HT := Lib.hid hT
  have h5 : ∀ p ∈ L, p.size ≤ 1000 := fun p hp => by have := ((setB_iff.1 hset).2.2.1 p hp).2.1; omega
  have LT := Lib.hid fun s W h => Letters_any q hq.2 s W h
  have AV := Lib.hid fun s W h h2 => Avoids_any v1 L s W h h5 (by omega) h2
  clear hs1 hb1 hset hT h5
  go_wp2_with fail
  refine (MB.out _).mono ?_
  rintro e w98 ⟨⟨Z, hZ, rfl⟩, rfl⟩
  have RW := Lib.hid fun W => refWords_any q Z hq (by omega) W
  go_wp2_with fail
  refine (RW.out _).mono ?_
  rintro e w2 ⟨vA, rfl, hA, hb2⟩
  have HB2 := Lib.hid (bl_then HB1.out hb2)
  have HS2 := Lib.hid (HS1.out.kept hb2)
  clear hb2
  have hfew := words_few (n := Z) hq.2 (by omega)
  have hpos : 0 < (wordsL q Z).length := by rw [words_len]; exact Nat.pow_pos hq.1
  obtain ⟨N, hN⟩ : ∃ N, N = (wordsL q Z).length := ⟨_, rfl⟩
  have HN := Lib.hid hN
  rw [← hN] at hA hfew hpos
  obtain ⟨gA, cA, rfl, _, hgA⟩ := own_form hA hpos
  have HRD : Hid (∀ j, j < N → ∃ s, (wordsL q Z)[j]? = some s ∧ s.length ≤ 5 ∧ ∀ W', Below w2.heap.size w2 W' → W'.cell? ⟨gA, j, none⟩ = some (.string (bs s)) ∧ gA < W'.heap.size) := Lib.hid fun j hj => by
    have hj' : j < (wordsL q Z).length := by omega
    refine ⟨(wordsL q Z)[j], List.getElem?_eq_getElem hj', by rw [((mem_words q Z _).1 (List.getElem_mem hj')).1]; omega, fun W' hb => ⟨?_, Nat.lt_of_lt_of_le hgA hb.size⟩⟩
    rw [hb.cell (p := ⟨gA, j, none⟩) hgA, hA.cellAt j (by omega)]
    unfold encS
    rw [List.getElem?_map, List.getElem?_eq_getElem hj']
    rfl
  clear hA hN hgA
  go_wp2_with fail
  go_loopw [11, 12] (fun sv iv wr => ∃ i : Nat, i ≤ N ∧ iv = .int .i64 i ∧ Hid (wr.ownsRow w2.heap.size 9 1 sv (someL (pats L) q Z i).length (encS (someL (pats L) q Z i))) ∧ Hid (Below w2.heap.size w2 wr)) (fun _ iv _ => N - (intOf iv).toNat)
  case atStart => exact ⟨0, Nat.zero_le _, rfl, Lib.hid (World.ownsRow_nil _ _ _ _), Lib.hid (bl_refl w2)⟩
  case round =>
    obtain ⟨i, hi', rfl, HO, HB⟩ := hrel
    have HSw := Lib.hid (HS2.out.kept HB.out)
    have HBw := Lib.hid (bl_then HB2.out HB.out)
    obtain ⟨A, ca, rfl⟩ := own_any2 HO.out
    by_cases hiN : i < N
    · have hi1 : (i : Int) < (N : Int) := by omega
      have hi2 : (0 : Int) ≤ (i : Int) := by omega
      obtain ⟨s, hs, hs5, hrd⟩ := HRD.out i hiN
      obtain ⟨cR, lR⟩ := hrd wr HB.out
      have AV1 := Lib.hid fun W h => AV.out (bs s) W h (by show s.length ≤ _; omega)
      have HSS := Lib.hid hs
      obtain ⟨M, hM⟩ : ∃ M, M = (someL (pats L) q Z i).length := ⟨_, rfl⟩
      have HMM := Lib.hid hM
      have hMi : M ≤ i := by rw [hM]; exact some_len _ _ _ _
      rw [← hM] at HO
      rw [← hM]
      have ho := HO.out
      clear hrd hs hM
      cases hok : okL (pats L) s with
      | false =>
        rw [show okL (pats L) (sb (bs s)) = false from hok] at AV1
        have HO2 : Hid (wr.ownsRow w2.heap.size 9 1 (.slice A M ca) (someL (pats L) q Z (i + 1)).length (encS (someL (pats L) q Z (i + 1)))) := Lib.hid (by
          rw [some_no HSS.out hok, ← HMM.out]; exact HO.out)
        clear hok ho
        go_wp2_with fail
        refine (AV1.out _ HSw.out).mono ?_
        rintro e w98 ⟨rfl, rfl⟩
        go_wp2_with fail
        go_roundw
        case rel => exact ⟨i + 1, by omega, by go_num, HO2, HB⟩
        case measure => simp [intOf]; omega
      | true =>
        rw [show okL (pats L) (sb (bs s)) = true from hok] at AV1
        have HY := Lib.hid (some_yes HSS.out hok)
        have hzW := HB.out.size
        clear hok
        go_wp2_with fail
        refine (AV1.out _ HSw.out).mono ?_
        rintro e w98 ⟨rfl, rfl⟩
        go_wp2_with (at_builtin; refine wpList_append_own _ rfl (.tmp 46) (.tmp 51) _ rfl w2.heap.size 9 i0 _ 1 16 Try.underlying22 hi hz0 hz1 hz2 rfl (by decide) (.slice A M ca) M (encS (someL (pats L) q Z i)) rfl (ho.alloc _) ⟨wr.heap.size, 0, none⟩ 1 1 [.string (bs s)] rfl rfl (cells_new _ _ _) (by intro u hu; rw [List.mem_singleton.1 hu]; rfl) (by unfold maxLen; omega) (by omega) (by simp; omega) ?_; intro v6 w6 hown6 hg6 _; have hoA := ho.alloc (.cells #[.string (bs s)] 9); have HB6 := Lib.hid (bl_grown (bl_alloc HB.out (.cells #[.string (bs s)] 9)) hoA (Nat.le_refl _) hg6))
        have HO6 : Hid (w6.ownsRow w2.heap.size 9 1 v6 (someL (pats L) q Z (i + 1)).length (encS (someL (pats L) q Z (i + 1)))) := Lib.hid (by
          rw [HY.out, encS_snoc, List.length_append, List.length_singleton, ← HMM.out]
          exact hown6)
        clear hg6 hoA hown6 ho cR lR
        go_roundw
        case rel => exact ⟨i + 1, by omega, by go_num, HO6, HB6⟩
        case measure => simp [intOf]; omega
    · obtain rfl : i = N := by omega
      have hall : someL (pats L) q Z i = accL T Z 0 := by rw [HN.out, HT.out]; exact some_all HSET.out
      rw [hall] at HO ⊢
      have hf : fewB T Z = true := by rw [HT.out]; exact few36 HSET.out Z (by omega)
      have HF := Lib.hid hf
      obtain ⟨C, hC⟩ : ∃ C, C = (accL T Z 0).length := ⟨_, rfl⟩
      have HC := Lib.hid hC
      have hC243 : C ≤ i := by rw [hC, ← hall]; exact some_len _ _ _ _
      have CO := Lib.hid fun W h h2 => Count_at q Z v1 L W T HT.out h HSET.out (by omega) h2 HF.out
      rw [← hC] at CO HO ⊢
      have EX := Lib.hid fun W h h2 => Extend_first q Z v1 L W T HT.out h HSET.out (by omega) h2
      have HB3 := HBw
      have HS3 := HSw
      clear hall hf hC
      go_wp2_with fail
      refine (CO.out _ HS3.out (HG.out.kept HB3.out)).mono ?_
      rintro e w4 ⟨rfl, hb4⟩
      have HB4 := Lib.hid (bl_then HB3.out hb4)
      have HS4 := Lib.hid (HS3.out.kept hb4)
      have HK4 := Lib.hid hb4
      clear hb4
      by_cases hC0 : C = 0
      · have EX1 := Lib.hid fun W h h2 => (EX.out W h h2).mono (R' := fun e w' => e = .returned (.tuple #[.string ⟨#[]⟩, .int .i64 6]) ∧ Below W.heap.size W w') fun e w' h => by
          obtain ⟨h1, h2⟩ := h
          rcases h1 with ⟨_, h1⟩ | ⟨x, hx, _⟩
          · exact ⟨h1, h2⟩
          · have := (List.getElem?_eq_some_iff.1 hx).1
            have := HC.out
            omega
        subst hC0
        go_wp2_with fail
        refine (EX1.out _ HS4.out (HG.out.kept HB4.out)).mono ?_
        rintro e w5 ⟨rfl, hb5⟩
        have HB5 := Lib.hid (bl_then HB4.out hb5)
        have HS5 := Lib.hid (HS4.out.kept hb5)
        clear hb5
        go_wp2_with fail
        refine (AW.out _ (HG.out.kept HB5.out)).mono ?_
        rintro e w99 ⟨rfl, hb99⟩
        have HB99 := Lib.hid (bl_then HB5.out hb99)
        clear hb99
        go_wp2_with fail
        go_ret
        exact ⟨rfl, HB99.out⟩
      · have hCi : ¬ (C : Int) = 0 := by omega
        have hCb : ((C : Int) == 0) = false := beq_false_of_ne hCi
        have MK := Lib.hid fun W => mod_any k C W (by omega)
        obtain ⟨gS, cS, hsl, hgS1, hgS2⟩ := own_form HO.out (by omega)
        have HCELL : Hid (∀ j s, (accL T Z 0)[j]? = some s → ∀ W', Below wr.heap.size wr W' → W'.cell? ⟨gS, j, none⟩ = some (.string (bs s)) ∧ gS < W'.heap.size) := Lib.hid fun j s hs W' hb => by
          have h := HO.out
          rw [hsl] at h
          have hj : j < C := by rw [HC.out]; exact (List.getElem?_eq_some_iff.1 hs).1
          refine ⟨?_, Nat.lt_of_lt_of_le hgS2 hb.size⟩
          rw [hb.cell (p := ⟨gS, j, none⟩) hgS2, h.cellAt j (by omega)]
          unfold encS
          rw [List.getElem?_map, hs]
          rfl
        have EX2 := Lib.hid fun W h h2 => (EX.out W h h2).mono (R' := fun e w' => (∃ x, (accL T Z 0)[0]? = some x ∧ e = .returned (.tuple #[.string (bs x), .int .i64 0])) ∧ Below W.heap.size W w') fun e w' h => by
          obtain ⟨h1, h2⟩ := h
          rcases h1 with ⟨h3, _⟩ | h1
          · have := HC.out
            rw [h3] at this
            exact absurd this hC0
          · exact ⟨h1, h2⟩
        simp only [Value.slice.injEq, true_and] at hsl
        obtain ⟨rfl, rfl⟩ := hsl
        clear HO HRD
        go_wp2_with fail
        refine (MK.out _).mono ?_
        rintro e w98 ⟨⟨r, hr, rfl⟩, rfl⟩
        obtain ⟨s, hs⟩ : ∃ s, (accL T Z 0)[r]? = some s := ⟨_, List.getElem?_eq_getElem (by rw [← HC.out]; exact hr)⟩
        have HSS := Lib.hid hs
        have IT1 := Lib.hid fun W h h2 => Item_at q Z v1 L r s W T HT.out h HSET.out (by omega) h2 HF.out HSS.out
        have IX1 := Lib.hid fun W h h2 => Index_at q Z v1 L r s W T HT.out h HSET.out (by omega) h2 HF.out HSS.out
        have hrC : (r : Int) < (C : Int) := by omega
        have hr0 : (0 : Int) ≤ (r : Int) := by omega
        have hC1 : (0 : Int) < (C : Int) := by omega
        clear hs
        go_wp2_with fail
        refine (IT1.out _ HS4.out (HG.out.kept HB4.out)).mono ?_
        rintro e w5 ⟨rfl, hb5⟩
        have HB5 := Lib.hid (bl_then HB4.out hb5)
        have HS5 := Lib.hid (HS4.out.kept hb5)
        have HK5 := Lib.hid (bl_then HK4.out hb5)
        clear hb5
        go_wp2_with fail
        refine (EX2.out _ HS5.out (HG.out.kept HB5.out)).mono ?_
        rintro e w6 ⟨⟨x, hx, rfl⟩, hb6⟩
        have HB6 := Lib.hid (bl_then HB5.out hb6)
        have HS6 := Lib.hid (HS5.out.kept hb6)
        have HK6 := Lib.hid (bl_then HK5.out hb6)
        have HXX := Lib.hid hx
        clear hb6 hx
        obtain ⟨y1, y2⟩ := HCELL.out r s HSS.out w6 HK6.out
        go_wp2_with fail
        refine (IX1.out _ HS6.out (HG.out.kept HB6.out)).mono ?_
        rintro e w7 ⟨rfl, hb7⟩
        have HB7 := Lib.hid (bl_then HB6.out hb7)
        have HK7 := Lib.hid (bl_then HK6.out hb7)
        clear hb7 y1 y2
        obtain ⟨z1, z2⟩ := HCELL.out r s HSS.out w7 HK7.out
        obtain ⟨z3, _⟩ := HCELL.out 0 x HXX.out w7 HK7.out
        go_wp2_with fail
        refine (AW.out _ (HG.out.kept HB7.out)).mono ?_
        rintro e w99 ⟨rfl, hb99⟩
        have HB99 := Lib.hid (bl_then HB7.out hb99)
        clear hb99
        go_wp2_with fail
        go_ret
        exact ⟨rfl, HB99.out⟩
end Go.Proofs.Ytnamafakjkcmjaa
