/-
  isUnavoidable, Loop.
-/
import Derived.Test.YtnamafakjkcmjaaT11
import Derived.Test.YtnamafakjkcmjaaMC
import Derived.Scope
namespace Go.Proofs.Ytnamafakjkcmjaa
open Go.RowKit Go.Shelf
set_option linter.unusedVariables false
set_option linter.unusedSimpArgs false

set_option maxRecDepth 100000 in
set_option maxHeartbeats 4000000 in
theorem isUnavoidable_any (q : Nat) (v : Value) (ss : List ByteArray) (w : World) (hv : StrsAt w v ss) (hq : 1 ≤ q ∧ q ≤ 3) (h0 : okL (pats ss) [] = true) (hG : HasG w) :
    Calls Try.prog 47 #[.int .i64 q, v] w fun e w' => (∃ l : Int, Lng (tabL (pats ss) q) 0 l ∧ e = .returned (.bool (decide (0 ≤ l)))) ∧ Below w.heap.size w w' := by
  have hT := tab_ok (q := q) h0
  have hS := stL_few (pats ss) hq.2
  have NM := Lib.hid fun W h1 h2 => newMachine_any q hq v ss W h1 h0 h2
  have LG := Lib.hid fun gm W h => longest_any gm q _ _ W h hT hq.2 hS
  have HV := Lib.hid hv
  have HG := Lib.hid hG
  clear hv hG
  go_enter Try.func47, Try.ntmps47
  go_wp2_with fail
  refine (NM.out _ HV.out HG.out).mono ?_
  rintro e w2 ⟨gm, rfl, hM, r2⟩
  go_wp2_with fail
  refine (LG.out _ _ hM).mono ?_
  rintro e w3 ⟨lv, L, rfl, hLl, HL, ho, r3⟩
  have hn0 : 0 < (stL (pats ss) q).length := by rw [stL_fix h0]; simp
  have hL0 := HL 0 hn0
  obtain ⟨gl, cl, rfl, hgl, hgl2⟩ := own_form ho hn0
  have ld := ho.cellAt 0 (by omega)
  have e0 : (encI L)[0]? = some (.int .i64 (L.getD 0 0)) := by
    unfold encI
    rw [List.getElem?_map, List.getElem?_eq_getElem (by omega), List.getD_eq_getElem?_getD, List.getElem?_eq_getElem (by omega)]
    rfl
  rw [e0] at ld
  obtain ⟨l, hl⟩ : ∃ l, l = L.getD 0 0 := ⟨_, rfl⟩
  rw [← hl] at ld hL0
  obtain ⟨N, hN⟩ : ∃ N, N = (stL (pats ss) q).length := ⟨_, rfl⟩
  rw [← hN] at hn0 ⊢
  have HB := Lib.hid (bl_then r2 r3)
  clear ho hl hN HL hLl e0 r2 r3
  go_wp2_with fail
  go_ret
  exact ⟨⟨l, hL0, by congr 2⟩, HB.out⟩

set_option maxRecDepth 100000 in
set_option maxHeartbeats 4000000 in
theorem Loop_no (q : Int) (v : Value) (ss : List ByteArray) (w : World) (hv : StrsAt w v ss) (hset : setB q ss = false) :
    Calls Try.prog 30 #[.int .i64 q, v] w fun e w' => e = .returned (.tuple #[.string ⟨#[]⟩, .int .i64 2]) ∧ Below w.heap.size w w' := by
  have IS := Lib.hid fun W h => isSet_any q v ss W h
  have HV := Lib.hid hv
  clear hv
  go_enter Try.func30, Try.ntmps30
  go_wp2_with fail
  refine wp_scope_straight ?_
  go_wp2_with fail
  refine (IS.out _ HV.out).mono ?_
  rintro e w1 ⟨rfl, r1⟩
  rw [hset]
  go_wp2_with fail
  simp only [Exit.noGoto]
  go_ret2
  exact ⟨rfl, r1⟩
set_option maxRecDepth 100000 in
set_option maxHeartbeats 4000000 in
theorem Loop_any (q N : Nat) (v : Value) (ss : List ByteArray) (w : World) (T : Tab) (S : List Str) (hTd : T = tabL (pats ss) q) (hSd : S = stL (pats ss) q) (hN : N = S.length) (hv : StrsAt w v ss) (hset : setB q ss = true) (hG : HasG w) :
    Calls Try.prog 30 #[.int .i64 q, v] w fun e w' => ((∃ m : Nat, Lng T 0 m ∧ e = .returned (.tuple #[.string ⟨#[]⟩, .int .i64 6])) ∨
      (Lng T 0 (-1) ∧ ∃ n : Nat, 1 ≤ n ∧ n ≤ N ∧ (∀ m, 1 ≤ m → m < n → ∀ i, i < N → rc T i m i = false) ∧
        (∃ i, i < N ∧ rc T i n i = true) ∧ e = .returned (.tuple #[.string (bs (bestN T n N)), .int .i64 0]))) ∧ Below w.heap.size w w' := by
  obtain ⟨hq1, hq2⟩ := (setB_parts hset).1
  have hq : 1 ≤ q ∧ q ≤ 3 := by omega
  have h0 : okL (pats ss) [] = true := ok_nil (pats_some hset)
  have hT := tab_ok (q := q) h0
  have hS := stL_few (pats ss) hq.2
  have hn0 : 0 < N := by rw [hN, hSd, stL_fix h0]; simp
  rw [← hTd, ← hSd] at hT
  rw [← hSd] at hS
  have IS := Lib.hid fun W h => isSet_any q v ss W h
  have NM := Lib.hid fun W h1 h2 => newMachine_any q hq v ss W h1 h0 h2
  rw [← hTd, ← hSd] at NM
  have IU := Lib.hid fun W h1 h2 => isUnavoidable_any q v ss W h1 hq h0 h2
  rw [← hTd] at IU
  clear hTd hSd
  have HV := Lib.hid hv
  have HG := Lib.hid hG
  clear hv hG
  go_enter Try.func30, Try.ntmps30
  go_wp2_with fail
  refine wp_scope_straight ?_
  go_wp2_with fail
  refine (IS.out _ HV.out).mono ?_
  rintro e w1 ⟨rfl, r1⟩
  rw [hset]
  go_wp2_with fail
  refine (IU.out _ (HV.out.kept r1) (HG.out.kept r1)).mono ?_
  rintro e w2 ⟨⟨l, hl, rfl⟩, r2⟩
  have R2 := Lib.hid (bl_then r1 r2)
  clear r1 r2
  rcases hl with ⟨hl1, hl2⟩ | ⟨m, hl1, hl2, hl3⟩
  · subst hl1
    go_wp2_with fail
    refine (NM.out _ (HV.out.kept R2.out) (HG.out.kept R2.out)).mono ?_
    rintro e w3 ⟨gm, rfl, hM, r3⟩
    have BK := Lib.hid fun f n W h h1 h2 => back_any gm q f n N S T W h hT hq.2 hS hN h1 h2
    obtain ⟨nc, fc, k1, k2, k3, k4⟩ := closed_way hT (by omega) hl2
    rw [← hN] at k2 k3
    rw [← hN] at hS
    have KC := Lib.hid (And.intro k3 k4)
    have HL := Lib.hid hl2
    have R3 := Lib.hid (bl_then R2.out r3)
    obtain ⟨gS, cS, gN, cN, hdrs0, h1, h2, h3, h4⟩ := id hM
    have c1 := (h1.cell 1).trans rfl
    have l1 := h1.lt
    rw [← hN] at c1
    have HM := Lib.hid hM
    clear h1 h2 h3 h4 hM hT r3 hl2 k3 k4 hN NM IU IS h0
    go_wp2_with fail
    refine wp_label ?_
    go_wp2_with fail
    go_loopw [7, 8] (fun b n wr => ∃ k : Nat, b = .string ⟨#[]⟩ ∧ n = .int .i64 k ∧ 1 ≤ k ∧ k ≤ nc ∧ Hid (∀ m, 1 ≤ m → m < k → ∀ i, i < N → rc T i m i = false) ∧ Hid (Below w3.heap.size w3 wr)) (fun _ n _ => nc - (intOf n).toNat)
    case atStart => exact ⟨1, rfl, rfl, Nat.le_refl _, k1, Lib.hid (fun m h1 h2 => by omega), Lib.hid (bl_refl w3)⟩
    case round =>
      obtain ⟨k, rfl, rfl, hk1, hk2, HN, HB⟩ := hrel
      have c1r := (HB.out.cell (p := ⟨gm, 1, none⟩) l1).trans c1
      have l1r := Nat.lt_of_lt_of_le l1 HB.out.size
      go_wp2_with fail
      go_loopw [7, 29] (fun b i wr' => ∃ j : Nat, j ≤ N ∧ i = .int .i64 j ∧ b = .string (bs (bestN T k j)) ∧ Hid (Below w3.heap.size w3 wr')) (fun _ i _ => N - (intOf i).toNat)
      case atStart => exact ⟨0, Nat.zero_le _, rfl, rfl, HB⟩
      case round =>
        obtain ⟨j, hj, rfl, rfl, HB2⟩ := hrel
        by_cases hjN : j < N
        · have C := Lib.hid (BK.out j k wr (HM.out.kept HB2.out) hjN (by omega))
          have hstep : Hid (bestN T k (j + 1) = if rc T j k j = true ∧ (bestN T k j = [] ∨ Op.bytesLess (bs (wayG (rc T j) T k j)).toList (bs (bestN T k j)).toList = true) then wayG (rc T j) T k j else bestN T k j) := Lib.hid rfl
          obtain ⟨B, hB⟩ : ∃ B, B = bestN T k j := ⟨_, rfl⟩
          rw [← hB] at hstep ⊢
          obtain ⟨Y, hY⟩ : ∃ Y, Y = wayG (rc T j) T k j := ⟨_, rfl⟩
          rw [← hY] at C hstep
          have hbB : Hid (B ≠ [] → bs B ≠ ⟨#[]⟩) := Lib.hid fun h e => h (by have := congrArg sb e; exact this)
          clear hB hY
          cases hrc : rc T j k j with
          | false =>
            rw [hrc] at C hstep
            rw [if_neg (by simp)] at hstep
            have C : Hid (Calls Try.prog 48 #[.pointer (some ⟨gm, 0, none⟩), .int .i64 j, .int .i64 k] wr fun e w' => e = .returned (.tuple #[.string ⟨#[]⟩, .bool false]) ∧ Below wr.heap.size wr w') := C
            clear hrc
            go_wp2_with fail
            refine C.out.mono ?_
            rintro e w5 ⟨rfl, r5⟩
            have HB5 := Lib.hid (bl_then HB2.out r5)
            clear r5
            go_wp2_with fail
            go_roundw
            case rel => exact ⟨j + 1, by omega, by go_num, by rw [hstep.out], HB5⟩
            case measure => simp [intOf]; omega
          | true =>
            rw [hrc] at C hstep
            have C : Hid (Calls Try.prog 48 #[.pointer (some ⟨gm, 0, none⟩), .int .i64 j, .int .i64 k] wr fun e w' => e = .returned (.tuple #[.string (bs Y), .bool true]) ∧ Below wr.heap.size wr w') := C
            clear hrc
            by_cases hb : B = []
            · subst hb
              rw [if_pos ⟨rfl, .inl rfl⟩] at hstep
              have hb0 : bs [] = ⟨#[]⟩ := rfl
              rw [hb0]
              clear hb0
              go_wp2_with fail
              refine C.out.mono ?_
              rintro e w5 ⟨rfl, r5⟩
              have HB5 := Lib.hid (bl_then HB2.out r5)
              clear r5
              go_wp2_with fail
              go_roundw
              case rel => exact ⟨j + 1, by omega, by go_num, by rw [hstep.out], HB5⟩
              case measure => simp [intOf]; omega
            · have hi1 : (bs B).toList.isEmpty = false := by rw [ByteArray.toList_eq]; show B.isEmpty = false; simpa using hb
              have hi2 : ¬ (bs B).toList = [] := by rw [ByteArray.toList_eq]; exact hb
              by_cases hl : Op.bytesLess (bs Y).toList (bs B).toList = true
              · rw [if_pos ⟨rfl, .inr hl⟩] at hstep
                go_wp2_with fail
                refine C.out.mono ?_
                rintro e w5 ⟨rfl, r5⟩
                have HB5 := Lib.hid (bl_then HB2.out r5)
                clear r5
                go_wp2_with fail
                go_roundw
                case rel => exact ⟨j + 1, by omega, by go_num, by rw [hstep.out], HB5⟩
                case measure => simp [intOf]; omega
              · rw [if_neg (by rintro ⟨_, h | h⟩ <;> contradiction)] at hstep
                have hl : Op.bytesLess (bs Y).toList (bs B).toList = false := by simpa using hl
                go_wp2_with fail
                refine C.out.mono ?_
                rintro e w5 ⟨rfl, r5⟩
                have HB5 := Lib.hid (bl_then HB2.out r5)
                clear r5
                go_wp2_with fail
                go_roundw
                case rel => exact ⟨j + 1, by omega, by go_num, by rw [hstep.out], HB5⟩
                case measure => simp [intOf]; omega
        · obtain rfl : j = N := by omega
          by_cases hb : bestN T k j = []
          · have hnone : ∀ i, i < j → rc T i k i = false := fun i hi => by
              cases h : rc T i k i with
              | false => rfl
              | true => exact absurd hb (bestN_some hk1 hi h)
            have hlt : k < nc := by
              rcases Nat.lt_or_eq_of_le hk2 with h | h
              · exact h
              · subst h
                have := hnone _ KC.out.1
                rw [KC.out.2] at this; cases this
            have hb0 : bs (bestN T k j) = ⟨#[]⟩ := by rw [hb]; rfl
            rw [hb0]
            clear hb0 hb
            have HNO := Lib.hid hnone
            clear hnone
            go_wp2_with fail
            go_roundw
            case rel =>
              refine ⟨k + 1, rfl, by go_num, by omega, by omega, Lib.hid fun m h1 h2 i hi => ?_, HB2⟩
              rcases Nat.lt_or_ge m k with h | h
              · exact HN.out m h1 h i hi
              · obtain rfl : m = k := by omega
                exact HNO.out i hi
            case measure => simp [intOf]; omega
          · have hi1 : (bs (bestN T k j)).toList.isEmpty = false := by rw [ByteArray.toList_eq]; show (bestN T k j).isEmpty = false; simpa using hb
            have hi2 : ¬ (bs (bestN T k j)).toList = [] := by rw [ByteArray.toList_eq]; exact hb
            have hex : ∃ i, i < j ∧ rc T i k i = true := by
              refine Classical.byContradiction fun hno => hb (bestN_none fun i hi => ?_)
              cases h : rc T i k i with
              | false => rfl
              | true => exact absurd ⟨i, hi, h⟩ hno
            go_wp2_with fail
            simp only [Exit.noGoto]
            go_ret2
            exact ⟨.inr ⟨.inl ⟨rfl, HL.out⟩, k, hk1, by omega, HN.out, hex, rfl⟩, bl_then R3.out HB2.out⟩
  · subst hl1
    have hm : decide (0 ≤ (m : Int)) = true := by simp
    go_wp2_with fail
    simp only [Exit.noGoto]
    go_ret2
    exact ⟨.inl ⟨m, .inr ⟨m, rfl, hl2, hl3⟩, rfl⟩, R2.out⟩
end Go.Proofs.Ytnamafakjkcmjaa
