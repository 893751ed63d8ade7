/-
  The reference: Words.
-/
import Derived.Test.YtnamafakjkcmjaaMD
namespace Go.Proofs.Ytnamafakjkcmjaa
open Go.RowKit Go.Shelf
set_option linter.unusedVariables false
set_option linter.unusedSimpArgs false

set_option maxRecDepth 100000 in
set_option maxHeartbeats 4000000 in
theorem refWords_any (q n : Nat) (hq : 1 ≤ q ∧ q ≤ 3) (hn : n ≤ 5) (w : World) :
    Calls Try.prog 28 #[.int .i64 q, .int .i64 n] w fun e w' => ∃ v, e = .returned v ∧ w'.ownsRow w.heap.size 9 1 v (wordsL q n).length (encS (wordsL q n)) ∧ Below w.heap.size w w' := by
  obtain ⟨i0, hi, hz0, hz1, hz2⟩ := info_parts infoS
  have o0 : (w.alloc (.cells #[.string ⟨#[]⟩] 9)).ownsRow w.heap.size 9 1 (.slice (some ⟨w.heap.size, 0, none⟩) 1 1) 1 (encS (wordsL q 0)) :=
    World.ownsRow_lit (base := w.heap.size) (e := 9) (size := 1) w #[.string ⟨#[]⟩] 1 (Nat.le_refl _) (by unfold maxLen; omega) rfl
  have O0 := Lib.hid o0
  clear o0
  go_enter Try.func28, Try.ntmps28
  go_wp2_with fail
  go_loopw [5, 6] (fun v i wr => ∃ k : Nat, k ≤ n ∧ i = .int .i64 k ∧ Hid (wr.ownsRow w.heap.size 9 1 v (wordsL q k).length (encS (wordsL q k))) ∧ Hid (Below w.heap.size w wr)) (fun _ i _ => n - (intOf i).toNat)
  case atStart => exact ⟨0, Nat.zero_le _, rfl, O0, Lib.hid (bl_alloc (bl_refl w) _)⟩
  case round =>
    obtain ⟨k, hk, rfl, HO, HB⟩ := hrel
    clear O0
    by_cases hkn : k < n
    · have hfew := words_few (n := k) hq.2 (by omega)
      have hpos : 0 < (wordsL q k).length := by rw [words_len]; exact Nat.pow_pos hq.1
      obtain ⟨N, hN⟩ : ∃ N, N = (wordsL q k).length := ⟨_, rfl⟩
      have HN := Lib.hid hN
      rw [← hN] at HO hfew hpos
      clear hN
      obtain ⟨g5, c5, rfl, hg5, hg52⟩ := own_form HO.out hpos
      have hrd : Hid (∀ j, ∀ h : j < (wordsL q k).length, wr.cell? ⟨g5, j, none⟩ = some (.string (bs (wordsL q k)[j]))) := Lib.hid fun j h => by
        rw [HO.out.cellAt j (by have := HN.out; omega)]
        unfold encS
        rw [List.getElem?_map, List.getElem?_eq_getElem h]
        rfl
      go_wp2_with fail
      generalize wr = W0 at *
      go_loopw [7, 8] (fun v j wx => ∃ m : Nat, m ≤ N ∧ j = .int .i64 m ∧ Hid (wx.ownsRow W0.heap.size 9 1 v (m * q) (encS (more1 q k m))) ∧ Hid (Below W0.heap.size W0 wx)) (fun _ j _ => N - (intOf j).toNat)
      case atStart => exact ⟨0, Nat.zero_le _, rfl, Lib.hid (by rw [Nat.zero_mul]; exact World.ownsRow_nil _ _ _ _), Lib.hid (bl_refl W0)⟩
      case round =>
        obtain ⟨m, hm, rfl, HM, HBx⟩ := hrel
        by_cases hmN : m < N
        · have hmw : m < (wordsL q k).length := by have := HN.out; omega
          obtain ⟨s, hs⟩ : ∃ s, s = (wordsL q k)[m] := ⟨_, rfl⟩
          have hsl : s.length ≤ 5 := by rw [hs, ((mem_words q k _).1 (List.getElem_mem hmw)).1]; omega
          have HS := Lib.hid hs
          clear hs
          go_wp2_with fail
          generalize wr = W1 at *
          go_loopw [7, 9] (fun v ci wx => ∃ c : Nat, c ≤ q ∧ ci = .int .i64 c ∧ wx.ownsRow W0.heap.size 9 1 v (m * q + c) (encS (more1 q k m ++ kids1 q c s)) ∧ Hid (Below W0.heap.size W0 wx)) (fun _ ci _ => q - (intOf ci).toNat)
          case atStart =>
            refine ⟨0, Nat.zero_le _, rfl, ?_, HBx⟩
            rw [show kids1 q 0 s = [] from rfl, List.append_nil]
            exact HM.out
          case round =>
            obtain ⟨c, hc, rfl, ho, HBy⟩ := hrel
            clear HM HBx
            by_cases hcq : c < q
            · obtain ⟨tt, htt⟩ : ∃ tt, tt = s ++ [ltr c] := ⟨_, rfl⟩
              have happ : bs s ++ bs [ltr c] = bs tt := by rw [htt]; exact bs_append _ _
              have habc := abc_at hcq hq.2
              have HTT := Lib.hid htt
              have zs1 : (bs s).size ≤ 5 := hsl
              have zs2 : (bs [ltr c]).size ≤ 1 := Nat.le_refl _
              obtain ⟨D, hD⟩ : ∃ D, D = c + 1 := ⟨_, rfl⟩
              have hw1 : IntKind.i64.wrap ((c : Int) + 1) = (D : Int) := by rw [show (c : Int) + 1 = (D : Int) by omega]; exact wrapN (by omega)
              have hc3 : (D : Int) ≤ 3 := by omega
              have hc4 : (c : Int) ≤ (D : Int) := by omega
              rw [← hD] at habc
              clear hD
              have hc5 : (0 : Int) ≤ (c : Int) := Int.natCast_nonneg c
              have hc6 : c ≤ 2 := by omega
              have hsum : ¬ 9223372036854775807 < (bs s).size + (bs [ltr c]).size := by omega
              have hmc : m * q + c ≤ 10000 := by
                have : m * q ≤ 243 * 3 := Nat.mul_le_mul (by omega) hq.2
                omega
              have cR := (HBy.out.cell (p := ⟨g5, m, none⟩) hg52).trans (hrd.out m hmw)
              rw [← HS.out] at cR
              have lR := Nat.lt_of_lt_of_le hg52 HBy.out.size
              have hzW := HBy.out.size
              obtain ⟨A, ca, rfl, _⟩ := own_any ho
              have hm1 : (m : Int) < (N : Int) := by omega
              have hm0 : (0 : Int) ≤ (m : Int) := Int.natCast_nonneg m
              clear htt
              go_wp2_with fail
              have ag : ∀ cap, (Value.slice A (m * q + c) cap).ownBlock ≠ some g5 := fun cap h => by
                have := (ho.lt g5 (by cases A <;> simp_all [Value.ownBlock])).1
                omega
              go_region_held3 (fun w' => w'.cell? ⟨g5, m, none⟩ = some (.string (bs s)))
                (first
                  | go_keep
                  | (rw [hgrow.cell_far _ (by simp; omega) (Ne.symm (ag _))]; assumption))
                ((refine step_append_lies _ (by rfl) _ _ _ (by rfl) W0.heap.size 9 i0 _ 1 16 Try.underlying22 hi hz0 hz1 hz2 rfl (by omega) (.slice A (m * q + c) ca) (m * q + c) _ (by rfl) ((ho.alloc _).drew)
                    ⟨wr.heap.size, 0, none⟩ 1 1 [.string (bs tt)] (by rfl) (by rfl) (World.news_of_block (cs := #[.string (bs tt)]) (t := 9) (fr := (0, 0)) (heap_alloc_new wr _)) (by simp [Value.oneCell'])
                    (by omega) (by unfold maxLen; omega) (by omega) (by simp; omega) (wr.heap.size + 1) (by simp) ?_; intro gg cap w1 hown1 hgrow hat hlt))
              rw [← encS_snoc, List.append_assoc, ← kids1_snoc HTT.out] at hown1
              have HB6 := Lib.hid (HBy.out.grown (((grown_alloc wr (.cells #[.string (bs tt)] 9) _).trans (grown_drew _ 1 |>.but _)).trans hgrow) HBy.out.size (fun k e => (ho.lt k e).1))
              have HO6 := Lib.hid hown1
              clear hown1 hgrow hat hlt ho HBy cR lR hw1 hc3 hc4 hc5 hm1 hm0 habc happ
              go_wp2_with fail
              go_roundw
              case rel => exact ⟨c + 1, by omega, by go_num, by rw [← Nat.add_assoc]; exact HO6.out, HB6⟩
              case measure => simp [intOf]; omega
            · have ec : c = q := by omega
              subst ec
              have HO2 : Hid (wr.ownsRow W0.heap.size 9 1 u7 ((m + 1) * c) (encS (more1 c k (m + 1)))) := Lib.hid (by
                rw [more1_succ hmw, ← HS.out, Nat.succ_mul]; exact ho)
              clear ho
              go_wp2_with fail
              go_roundw
              case rel => exact ⟨m + 1, by omega, by go_num, HO2, HBy⟩
              case measure => simp [intOf]; omega
        · have em : N = m := by omega
          subst em
          have HO2 : Hid (wr.ownsRow w.heap.size 9 1 u7 (wordsL q (k + 1)).length (encS (wordsL q (k + 1)))) := Lib.hid (by
            have h := HM.out
            rw [← more1_all, more1_len _ _ (Nat.le_refl _), ← HN.out]
            exact own_low h HB.out.size)
          have HB2 := Lib.hid (bl_then HB.out HBx.out)
          clear HM HBx
          go_wp2_with fail
          go_roundw
          case rel => exact ⟨k + 1, by omega, by go_num, HO2, HB2⟩
          case measure => simp [intOf]; omega
    · have ek : n = k := by omega
      subst ek
      have HO2 := Lib.hid HO.out
      clear HO
      go_wp2_with fail
      go_ret
      exact ⟨_, rfl, HO2.out, HB.out⟩
end Go.Proofs.Ytnamafakjkcmjaa
