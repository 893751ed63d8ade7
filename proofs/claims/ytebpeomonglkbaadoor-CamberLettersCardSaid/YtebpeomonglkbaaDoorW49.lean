/-
  CamberLetters: the word of a path begins with a and ends with b, has the letters that Fraction tells, and between its ends it is the same from behind.
-/
import Derived.Test.YtebpeomonglkbaaDoorW46
import Derived.Test.YtebpeomonglkbaaDoorW43
import Derived.Test.YtebpeomonglkbaaDoorW32
namespace Go.Proofs.YtebpeomonglkbaaDoor
open Go.RowKit Go.Sort Cam
set_option linter.unusedVariables false
set_option linter.unusedSimpArgs false

/-- What the law asks of a word's bytes. -/
theorem mid_bytes {X : ByteArray} {l : List UInt8} (h : X.data.toList = wordsL l) :
    2 ≤ X.size ∧ (∀ h0 : 0 < X.size, X[0]'h0 = 97) ∧ (∀ h1 : X.size - 1 < X.size, X[X.size - 1]'h1 = 98) ∧ ∀ i (h2 : i < X.size) (h3 : X.size - 1 - i < X.size), 1 ≤ i → i + 1 < X.size → X[i]'h2 = X[X.size - 1 - i]'h3 := by
  obtain ⟨m1, m2, m3, m4⟩ := (mid_word l).says
  have hl : (wordsL l).length = X.size := by rw [← h]; exact Array.length_toList
  rw [hl] at m1 m3 m4
  have get : ∀ i (hi : i < X.size), (wordsL l)[i]? = some (X[i]'hi) := by
    intro i hi
    rw [← h]
    exact List.getElem?_eq_getElem (by rw [show X.data.toList.length = X.size from Array.length_toList]; exact hi)
  refine ⟨m1, fun h0 => ?_, fun h1 => ?_, fun i h2 h3 h4 h5 => ?_⟩
  · have := get 0 h0; rw [m2] at this; exact (Option.some.inj this).symm
  · have := get _ h1; rw [m3] at this; exact (Option.some.inj this).symm
  · have := m4 i h4 h5; rw [get i h2, get _ h3] at this; exact Option.some.inj this
theorem count_step (l : List UInt8) (k : Nat) (hk : k < l.length) : (l.take (k + 1)).count 97 = (l.take k).count 97 + (if l[k] = 97 then 1 else 0) := by
  rw [List.take_succ_eq_append_getElem hk, List.count_append, List.count_singleton]
  by_cases h : l[k] = 97 <;> simp [h]

set_option maxRecDepth 100000 in
set_option maxHeartbeats 4000000 in
theorem CamberLetters_walk (s : ByteArray) (w : World) (hs : s.size ≤ 140737488351232) (hF : FirstAt w) :
    Calls Tryd.prog 15 #[.string s] w fun e w' => e = .returned (.bool true) ∧ Below w.heap.size w w' := by
  have AW := Lib.hid fun W h => awake_any W h
  have L := Lib.hid fun W => letters_LR s 20 W hs (by omega)
  obtain ⟨t, ht⟩ : ∃ t : ByteArray, t = ⟨(lettersOf 76 82 20 s).toArray⟩ := ⟨_, rfl⟩
  rw [← ht] at L
  have h20 : t.size ≤ 20 := by
    rw [ht]; show (lettersOf 76 82 20 s).toArray.size ≤ 20; simp [lettersOf]; omega
  have hp : isPathB t = true := by
    rw [ht]
    unfold isPathB
    simp only [Bool.and_eq_true, decide_eq_true_eq]
    constructor
    · show (lettersOf 76 82 20 s).toArray.size ≤ 60
      simp [lettersOf]; omega
    · rw [List.all_eq_true]
      intro x hx
      simp only [lettersOf, List.mem_map] at hx
      obtain ⟨c, _, rfl⟩ := hx
      unfold pickB; split <;> rfl
  clear ht
  have h9 : sumP (cntP t.data.toList) ≤ 2097152 := by
    have h1 := grG_sum t.data.toList true (1, 0) (0, 1)
    rw [← sum_add] at h1
    have h2 : (2 : Nat) ^ t.data.toList.length ≤ 2 ^ 20 := Nat.pow_le_pow_right (by omega) (by rw [show t.data.toList.length = t.size from Array.length_toList]; exact h20)
    have h3 : (2 : Nat) ^ 20 = 1048576 := by decide
    have h4 : sumP (1, 0) + sumP (0, 1) = 2 := rfl
    rw [h4] at h1
    have h5 : sumP (cntP t.data.toList) ≤ 2 * 2 ^ t.data.toList.length := h1
    omega
  have WD := Lib.hid fun W => Word_any t W (by omega)
  have FR := Lib.hid fun W => Fraction_any t W (by omega)
  have fa : fracA t = .agg #[.int .i64 (cntP t.data.toList).2, .int .i64 (cntP t.data.toList).1] := by unfold fracA; rw [if_pos hp, if_pos (by omega)]
  have fe : fracE t = 0 := by unfold fracE; rw [if_pos hp, if_pos (by omega)]
  rw [fa, fe] at FR
  obtain ⟨p1, q1⟩ := cnt_pos t.data.toList
  have hg := cnt_gcd t.data.toList
  have h9' : (cntP t.data.toList).1 + (cntP t.data.toList).2 ≤ 2097152 := h9
  have GC := Lib.hid fun W => Gcd_any (cntP t.data.toList).2 (cntP t.data.toList).1 W (by omega) (by omega)
  rw [hg] at GC
  by_cases h40 : sumP (cntP t.data.toList) ≤ 40
  · obtain ⟨wa, we⟩ := word_yes hp h40
    rw [wa, we] at WD
    have hX : (wordFull t.data.toList).data.toList = wordsL t.data.toList := wordFull_list _
    obtain ⟨m1, m2, m3, m4⟩ := mid_bytes hX
    have hsz := wordFull_size t.data.toList
    have HC : Hid ((wordFull t.data.toList).data.toList.count 97 = (cntP t.data.toList).1) := by rw [hX]; exact congrArg Prod.fst (word_counts t.data.toList)
    have hsum : (wordFull t.data.toList).size = (cntP t.data.toList).1 + (cntP t.data.toList).2 := hsz
    have h40' : (cntP t.data.toList).1 + (cntP t.data.toList).2 ≤ 40 := h40
    clear wa we fa fe hX hsz h9 h9' h40 hg hp
    generalize wordFull t.data.toList = X at *
    have HL : Hid (X.data.toList.length = X.size) := Array.length_toList
    generalize (cntP t.data.toList).1 = p at *
    generalize (cntP t.data.toList).2 = q at *
    have n0 : 0 < X.size := by omega
    have n1 : X.size - 1 < X.size := by omega
    have c0 : ((X[0]'n0).toNat : Int) = 97 := by rw [m2 n0]; rfl
    have cl : ((X[X.size - 1]'n1).toNat : Int) = 98 := by rw [m3 n1]; rfl
    have m4 := Lib.hid m4
    have HS := Lib.hid hsum
    have hX40 : X.size ≤ 40 := by omega
    clear m2 m3 hsum h40'
    go_enter Tryd.func15, Tryd.ntmps15
    go_wp2_with fail
    refine (L.out _).mono ?_
    rintro e w1 ⟨rfl, hb1⟩
    have hF1 := hF.kept hb1
    go_wp2_with fail
    refine (WD.out _).mono ?_
    rintro e w2 ⟨rfl, hb2⟩
    have hF2 := hF1.kept hb2
    have hbB := bl_then hb1 hb2
    go_wp2_with fail
    refine (FR.out _).mono ?_
    rintro e w3 ⟨rfl, hb3⟩
    have hF3 := (hF2.kept hb3).kept (bl_alloc (bl_refl _) (.cells #[.int .i64 q, .int .i64 p] 60))
    have hbC := bl_alloc (bl_then hbB hb3) (.cells #[.int .i64 q, .int .i64 p] 60)
    have W3 := Whole.new w3 60 #[.int .i64 q, .int .i64 p]
    go_wp2_with fail
    refine (GC.out _).mono ?_
    rintro e w4 ⟨rfl, rfl⟩
    go_wp2_with fail
    go_loop [8, 9, 10] (fun a b i => ∃ k c : Nat, k ≤ X.size ∧ i = .int .i64 k ∧ a = .int .i64 c ∧ b = .int .i64 ((k : Int) - c) ∧ c ≤ k ∧ Hid ((X.data.toList.take k).count 97 = c)) (fun _ _ i => X.size - (intOf i).toNat)
    case atStart => exact ⟨0, 0, by omega, rfl, rfl, rfl, by omega, by simp [Hid]⟩
    case round =>
      obtain ⟨k, c, hk, rfl, rfl, rfl, hck, HK⟩ := hrel
      by_cases hlt : k < X.size
      · have hlw : k < X.data.toList.length := by have := HL.out; omega
        have hst := count_step X.data.toList k hlw
        rw [HK.out, show X.data.toList[k]'hlw = X[k]'hlt from rfl] at hst
        by_cases h97 : X[k] = 97
        · rw [if_pos h97] at hst
          have hst := Lib.hid hst
          have hc1 : ((X[k].toNat : Int) == 97) = true := by rw [h97]; rfl
          clear h97
          go_wp2_with fail
          go_round
          case rel => exact ⟨k + 1, c + 1, by omega, by go_num, by go_num, by go_num, by omega, hst⟩
          case measure => simp [intOf]; omega
        · rw [if_neg h97] at hst
          have hst := Lib.hid hst
          have hc1 : ((X[k].toNat : Int) == 97) = false := by
            rw [beq_eq_false_iff_ne]; intro e; exact h97 (UInt8.toNat_inj.1 (by have : (97 : UInt8).toNat = 97 := rfl; omega))
          clear h97
          go_wp2_with fail
          go_round
          case rel => exact ⟨k + 1, c, by omega, by go_num, rfl, by go_num, by omega, hst⟩
          case measure => simp [intOf]; omega
      · have hkX : k = X.size := by omega
        have hc : c = p := by
          have h1 := HK.out
          rw [List.take_of_length_le (by have := HL.out; omega), HC.out] at h1
          exact h1.symm
        subst hc
        have hkq : (k : Int) - c = q := by have := HS.out; omega
        clear hkX HS
        clear HK HL HC
        go_wp2_with fail
        go_loopw [11] (fun i wr => ∃ j : Nat, 1 ≤ j ∧ j ≤ X.size ∧ i = .int .i64 j ∧ Hid (FirstAt wr) ∧ Below w.heap.size w wr) (fun i _ => X.size - (intOf i).toNat)
        case atStart => exact ⟨1, by omega, by omega, rfl, hF3, hbC⟩
        case round =>
          obtain ⟨j, hj1, hj2, rfl, hFr, hb⟩ := hrel
          by_cases hjl : j + 1 < X.size
          · have i1 : j < X.size := by omega
            obtain ⟨m, hm⟩ : ∃ m : Nat, m = X.size - 1 - j := ⟨_, rfl⟩
            have i2 : m < X.size := by omega
            have e : X[j]'i1 = X[m]'i2 := by
              have := m4.out j i1 (by omega) hj1 hjl
              rw [this]
              simp only [hm]
            have e1 : ((X[j]'i1).toNat : Int) = ((X[m]'i2).toNat : Int) := by rw [e]
            have hm' : (X.size : Int) - 1 - (j : Int) = (m : Int) := by omega
            clear hm e
            go_wp2_with fail
            go_quiet (fail)
            go_wp2_with fail
            go_roundw
            case rel => exact ⟨j + 1, by omega, by omega, by go_num, hFr.out.kept (bl_drewN (bl_refl _) nq), bl_drewN hb nq⟩
            case measure => simp [intOf]; omega
          · go_wp2_with fail
            refine (AW.out _ hFr.out).mono ?_
            rintro e w9 ⟨rfl, hb9⟩
            go_wp2_with fail
            go_ret
            exact ⟨rfl, bl_then hb hb9⟩
  · obtain ⟨wa, we⟩ := word_no hp (by omega)
    rw [wa, we] at WD
    have h40' : 40 < (cntP t.data.toList).1 + (cntP t.data.toList).2 := by
      have : ¬ (cntP t.data.toList).1 + (cntP t.data.toList).2 ≤ 40 := h40
      omega
    clear wa we fa fe h9 h40 hg hp
    generalize (cntP t.data.toList).1 = p at *
    generalize (cntP t.data.toList).2 = q at *
    go_enter Tryd.func15, Tryd.ntmps15
    go_wp2_with fail
    refine (L.out _).mono ?_
    rintro e w1 ⟨rfl, hb1⟩
    have hF1 := hF.kept hb1
    go_wp2_with fail
    refine (WD.out _).mono ?_
    rintro e w2 ⟨rfl, hb2⟩
    have hF2 := hF1.kept hb2
    have hbB := bl_then hb1 hb2
    go_wp2_with fail
    refine (FR.out _).mono ?_
    rintro e w3 ⟨rfl, hb3⟩
    have hF3 := (hF2.kept hb3).kept (bl_alloc (bl_refl _) (.cells #[.int .i64 q, .int .i64 p] 60))
    have hbC := bl_alloc (bl_then hbB hb3) (.cells #[.int .i64 q, .int .i64 p] 60)
    go_wp2_with fail
    refine (GC.out _).mono ?_
    rintro e w4 ⟨rfl, rfl⟩
    go_wp2_with fail
    refine (AW.out _ hF3).mono ?_
    rintro e w5 ⟨rfl, hb5⟩
    go_wp2_with fail
    go_ret
    exact ⟨rfl, bl_then hbC hb5⟩
end Go.Proofs.YtebpeomonglkbaaDoor
