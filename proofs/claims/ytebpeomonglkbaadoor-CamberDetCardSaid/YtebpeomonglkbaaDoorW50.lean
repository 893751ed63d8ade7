/-
  CamberDet: determinants in remainders, the matrix of two words is the product.
-/
import Derived.Test.YtebpeomonglkbaaDoorW42
import Derived.Test.YtebpeomonglkbaaDoorW32
namespace Go.Proofs.YtebpeomonglkbaaDoor
open Go.RowKit Go.Sort Cam
set_option linter.unusedVariables false
set_option linter.unusedSimpArgs false

theorem matrix_fits {x : ByteArray} (hw : isWordB x = true) (hb : ¬ (matG x.data.toList).big) : matA x = .agg (matG x.data.toList).arr ∧ matE x = 0 := by
  have e : matF x.data.toList ⟨1, 0, 0, 1⟩ = some (matG x.data.toList) := by rw [matF_one, if_neg hb]
  unfold matA matE
  rw [if_pos hw, if_pos hw, e]
  exact ⟨rfl, rfl⟩
theorem matrix_big {x : ByteArray} (hw : isWordB x = true) (hb : (matG x.data.toList).big) : matA x = zeros4 ∧ matE x = 5 := by
  have e : matF x.data.toList ⟨1, 0, 0, 1⟩ = none := by rw [matF_one, if_pos hb]
  unfold matA matE
  rw [if_pos hw, if_pos hw, e]
  exact ⟨rfl, rfl⟩
theorem lettersAB_all (n : Nat) (s : ByteArray) : ∀ c ∈ lettersOf 97 98 n s, c = 97 ∨ c = 98 := by
  intro x hx
  simp only [lettersOf, List.mem_map] at hx
  obtain ⟨c, _, rfl⟩ := hx
  unfold pickB; split <;> simp
theorem lettersAB_len (n : Nat) (s : ByteArray) : (lettersOf 97 98 n s).length ≤ n := by simp [lettersOf]; omega
theorem isWord_of {x : ByteArray} (h : x.size ≤ 40) (hl : ∀ c ∈ x.data.toList, c = 97 ∨ c = 98) : isWordB x = true := by
  unfold isWordB
  rw [Bool.and_eq_true]
  refine ⟨by simpa using h, ?_⟩
  rw [List.all_eq_true]
  intro c hc
  have := hl c hc
  simpa using this
theorem prod_range {x y p : Int} (hx : 0 ≤ x ∧ x < p) (hy : 0 ≤ y ∧ y < p) (hp : p ≤ 2147483647) : 0 ≤ x * y ∧ x * y ≤ 4611686014132420609 := by
  refine ⟨Int.mul_nonneg hx.1 hy.1, ?_⟩
  have := Int.mul_le_mul (show x ≤ 2147483647 by omega) (show y ≤ 2147483647 by omega) hy.1 (by omega)
  omega
/-- What one of the two words has. -/
theorem det_word (s : ByteArray) (v : ByteArray) (hv : v = ⟨(lettersOf 97 98 15 s).toArray⟩) : v.size ≤ 15 ∧ (∀ c ∈ v.data.toList, c = 97 ∨ c = 98) ∧ ∃ a b c d : Int, matG v.data.toList = ⟨a, b, c, d⟩ ∧ a * d - b * c = 1 ∧ (1 ≤ a ∧ a ≤ 940369969152) ∧ (0 ≤ b ∧ b ≤ 940369969152) ∧ (0 ≤ c ∧ c ≤ 940369969152) ∧ (1 ≤ d ∧ d ≤ 940369969152) ∧ ∀ W, Calls Tryd.prog 28 #[.string v] W fun e w' => e = .returned (.tuple #[.agg #[.int .i64 a, .int .i64 b, .int .i64 c, .int .i64 d], .int .i64 0]) ∧ Below W.heap.size W w' := by
  have hl : v.data.toList = lettersOf 97 98 15 s := by rw [hv]
  have h15 : v.data.toList.length ≤ 15 := by rw [hl]; exact lettersAB_len 15 s
  have hsz : v.size ≤ 15 := by rw [← show v.data.toList.length = v.size from Array.length_toList]; exact h15
  have hall : ∀ c ∈ v.data.toList, c = 97 ∨ c = 98 := by rw [hl]; exact lettersAB_all 15 s
  have hw : isWordB v = true := isWord_of (by omega) hall
  have hd := det_matG v.data.toList
  have hp := matG_pos v.data.toList
  have hle := matG_le v.data.toList h15
  have hb : ¬ (matG v.data.toList).big := by unfold M4.big; omega
  obtain ⟨ma, me⟩ := matrix_fits hw hb
  refine ⟨hsz, hall, (matG v.data.toList).a, (matG v.data.toList).b, (matG v.data.toList).c, (matG v.data.toList).d, rfl, hd, ⟨hp.1, hle.1⟩, ⟨hp.2.1, hle.2.1⟩, ⟨hp.2.2.1, hle.2.2.1⟩, ⟨hp.2.2.2, hle.2.2.2⟩, fun W => ?_⟩
  have := Matrix_word v W hw
  rw [ma, me] at this
  exact this

set_option maxRecDepth 100000 in
set_option maxHeartbeats 8000000 in
theorem CamberDet_walk (s t : ByteArray) (w : World) (hs : s.size ≤ 140737488351232) (ht : t.size ≤ 140737488351232) (hF : FirstAt w) :
    Calls Tryd.prog 9 #[.string s, .string t] w fun e w' => e = .returned (.bool true) ∧ Below w.heap.size w w' := by
  have AW := Lib.hid fun W h => awake_any W h
  have LA := Lib.hid fun W => letters_ab s 15 W hs (by omega)
  have LB := Lib.hid fun W => letters_ab t 15 W ht (by omega)
  obtain ⟨v, hv⟩ : ∃ v : ByteArray, v = ⟨(lettersOf 97 98 15 s).toArray⟩ := ⟨_, rfl⟩
  obtain ⟨u, hu⟩ : ∃ u : ByteArray, u = ⟨(lettersOf 97 98 15 t).toArray⟩ := ⟨_, rfl⟩
  rw [← hv] at LA
  rw [← hu] at LB
  obtain ⟨hvs, hva, a0, a1, a2, a3, hma, hda, A0, A1, A2, A3, MA⟩ := det_word s v hv
  obtain ⟨hus, hua, b0, b1, b2, b3, hmb, hdb, B0, B1, B2, B3, MB⟩ := det_word t u hu
  have MA := Lib.hid MA
  have MB := Lib.hid MB
  clear hv hu
  have hcat : (v ++ u).data.toList = catL v.data.toList u.data.toList := by rw [ByteArray.data_append, Array.toList_append]; rfl
  have hwc : isWordB (v ++ u) = true := isWord_of (by simp; omega) (by
    intro c hc
    rw [hcat] at hc
    exact (List.mem_append.1 hc).elim (hva c) (hua c))
  have hmc : matG (v ++ u).data.toList = ⟨a0 * b0 + a1 * b2, a0 * b1 + a1 * b3, a2 * b0 + a3 * b2, a2 * b1 + a3 * b3⟩ := by
    rw [hcat, matG_append, hma, hmb]; rfl
  have hpc := matG_pos (v ++ u).data.toList
  have MC0 := fun W => Matrix_word (v ++ u) W hwc
  obtain ⟨c0, hc0⟩ : ∃ c, c = a0 * b0 + a1 * b2 := ⟨_, rfl⟩
  obtain ⟨c1, hc1⟩ : ∃ c, c = a0 * b1 + a1 * b3 := ⟨_, rfl⟩
  obtain ⟨c2, hc2⟩ : ∃ c, c = a2 * b0 + a3 * b2 := ⟨_, rfl⟩
  obtain ⟨c3, hc3⟩ : ∃ c, c = a2 * b1 + a3 * b3 := ⟨_, rfl⟩
  rw [← hc0, ← hc1, ← hc2, ← hc3] at hmc
  have HE : Hid (∀ p : Int, (a0 % p * (b0 % p) % p + a1 % p * (b2 % p) % p) % p = c0 % p ∧ (a0 % p * (b1 % p) % p + a1 % p * (b3 % p) % p) % p = c1 % p ∧ (a2 % p * (b0 % p) % p + a3 % p * (b2 % p) % p) % p = c2 % p ∧ (a2 % p * (b1 % p) % p + a3 % p * (b3 % p) % p) % p = c3 % p) := by
    intro p
    rw [hc0, hc1, hc2, hc3]
    exact ⟨prod_mod, prod_mod, prod_mod, prod_mod⟩
  have HD := Lib.hid fun p (hp : 1 < p) => det_mod (a := a0) (b := a1) (c := a2) (d := a3) (p := p) hp hda
  rw [hmc] at hpc
  obtain ⟨C0, C1, C2, C3⟩ := hpc
  simp only at C0 C1 C2 C3
  by_cases hb : (matG (v ++ u).data.toList).big
  · obtain ⟨mc, me⟩ := matrix_big hwc hb
    have MC : Hid (∀ W, Calls Tryd.prog 28 #[.string (v ++ u)] W fun e w' => e = .returned (.tuple #[.agg #[.int .i64 0, .int .i64 0, .int .i64 0, .int .i64 0], .int .i64 5]) ∧ Below W.heap.size W w') := by
      intro W
      have := MC0 W
      rw [mc, me] at this
      exact this
    clear mc me hb MC0 hmc hc0 hc1 hc2 hc3 HE hcat hwc hva hua hma hmb hda hdb C0 C1 C2 C3
    go_enter Tryd.func9, Tryd.ntmps9
    go_wp2_with fail
    refine (LA.out _).mono ?_
    rintro e w1 ⟨rfl, hb1⟩
    go_wp2_with fail
    refine (LB.out _).mono ?_
    rintro e w2 ⟨rfl, hb2⟩
    have hF2 := (hF.kept hb1).kept hb2
    have hbA := bl_then hb1 hb2
    go_wp2_with fail
    refine (MA.out _).mono ?_
    rintro e w3 ⟨rfl, hb3⟩
    have hF3 := (hF2.kept hb3).kept (bl_alloc (bl_refl _) (.cells #[.int .i64 a0, .int .i64 a1, .int .i64 a2, .int .i64 a3] 37))
    have hbB := bl_alloc (bl_then hbA hb3) (.cells #[.int .i64 a0, .int .i64 a1, .int .i64 a2, .int .i64 a3] 37)
    have WA := Whole.new w3 37 #[.int .i64 a0, .int .i64 a1, .int .i64 a2, .int .i64 a3]
    go_wp2_with fail
    refine (MB.out _).mono ?_
    rintro e w4 ⟨rfl, hb4⟩
    have hF4 := (hF3.kept hb4).kept (bl_alloc (bl_refl _) (.cells #[.int .i64 b0, .int .i64 b1, .int .i64 b2, .int .i64 b3] 37))
    have hbC := bl_alloc (bl_then hbB hb4) (.cells #[.int .i64 b0, .int .i64 b1, .int .i64 b2, .int .i64 b3] 37)
    have WA := (WA.kept hb4).alloc (.cells #[.int .i64 b0, .int .i64 b1, .int .i64 b2, .int .i64 b3] 37)
    have WB := Whole.new w4 37 #[.int .i64 b0, .int .i64 b1, .int .i64 b2, .int .i64 b3]
    go_wp2_with fail
    refine (MC.out _).mono ?_
    rintro e w5 ⟨rfl, hb5⟩
    have hF5 := (hF4.kept hb5).kept (bl_alloc (bl_refl _) (.cells #[.int .i64 0, .int .i64 0, .int .i64 0, .int .i64 0] 37))
    have hbD := bl_alloc (bl_then hbC hb5) (.cells #[.int .i64 0, .int .i64 0, .int .i64 0, .int .i64 0] 37)
    have WA := WA.kept hb5
    have WB := WB.kept hb5
    have ka0 : w5.cell? ⟨w3.heap.size, 0, none⟩ = some (.int .i64 a0) := (WA.cell 0).trans rfl
    have ka1 : w5.cell? ⟨w3.heap.size, 1, none⟩ = some (.int .i64 a1) := (WA.cell 1).trans rfl
    have ka2 : w5.cell? ⟨w3.heap.size, 2, none⟩ = some (.int .i64 a2) := (WA.cell 2).trans rfl
    have ka3 : w5.cell? ⟨w3.heap.size, 3, none⟩ = some (.int .i64 a3) := (WA.cell 3).trans rfl
    have kb0 : w5.cell? ⟨w4.heap.size, 0, none⟩ = some (.int .i64 b0) := (WB.cell 0).trans rfl
    have kb1 : w5.cell? ⟨w4.heap.size, 1, none⟩ = some (.int .i64 b1) := (WB.cell 1).trans rfl
    have kb2 : w5.cell? ⟨w4.heap.size, 2, none⟩ = some (.int .i64 b2) := (WB.cell 2).trans rfl
    have kb3 : w5.cell? ⟨w4.heap.size, 3, none⟩ = some (.int .i64 b3) := (WB.cell 3).trans rfl
    have hsA := WA.lt
    have hsB := WB.lt
    have WC := Whole.new w5 37 #[.int .i64 0, .int .i64 0, .int .i64 0, .int .i64 0]
    clear LA LB MA MB MC hb1 hb2 hb3 hb4 hb5 hbA hbB hbC hF2 hF3 hF4
    go_wp2_with fail
    refine wp_loop_rounds 5 ?_; rw [rounds_succ]
    go_wp2_with fail
    rw [rounds_succ]
    go_wp2_with fail
    rw [rounds_succ]
    go_wp2_with fail
    rw [rounds_succ]
    go_wp2_with fail
    rw [rounds_succ]
    go_wp2_with fail
    go_loopw [15] (fun i wr => ∃ k : Nat, k ≤ 3 ∧ i = .int .i64 k ∧ Whole wr w3.heap.size 37 #[.int .i64 a0, .int .i64 a1, .int .i64 a2, .int .i64 a3] ∧ Whole wr w4.heap.size 37 #[.int .i64 b0, .int .i64 b1, .int .i64 b2, .int .i64 b3] ∧ Whole wr w5.heap.size 37 #[.int .i64 0, .int .i64 0, .int .i64 0, .int .i64 0] ∧
      (∃ p0 p1 p2 : Int, Whole wr (w5.heap.size + 1) 22 #[.int .i64 p0, .int .i64 p1, .int .i64 p2] ∧ Hid ((2147483587 ≤ p0 ∧ p0 ≤ 2147483647) ∧ (2147483587 ≤ p1 ∧ p1 ≤ 2147483647) ∧ (2147483587 ≤ p2 ∧ p2 ≤ 2147483647))) ∧
      Hid (FirstAt wr) ∧ Below w.heap.size w wr) (fun i _ => 3 - (intOf i).toNat)
    case atStart => exact ⟨0, by omega, rfl, (WA.alloc _).alloc _, (WB.alloc _).alloc _, WC.alloc _, ⟨_, _, _, Whole.new2 w5 _ _ _, ⟨⟨by omega, by omega⟩, ⟨by omega, by omega⟩, ⟨by omega, by omega⟩⟩⟩, hF5.kept (bl_alloc (bl_refl _) _), bl_alloc hbD _⟩
    case round =>
      obtain ⟨k, hk, rfl, XA, XB, XC, ⟨p0, p1, p2, XP, hpr⟩, hFr, hb⟩ := hrel
      clear WA WB WC ka0 ka1 ka2 ka3 kb0 kb1 kb2 kb3 hsA hsB hF5 hbD
      have HZ : Hid (w3.heap.size < wr.heap.size ∧ w4.heap.size < wr.heap.size ∧ w5.heap.size < wr.heap.size) := ⟨XA.lt, XB.lt, XC.lt⟩
      have ka0 : wr.cell? ⟨w3.heap.size, 0, none⟩ = some (.int .i64 a0) := (XA.cell 0).trans rfl
      have ka1 : wr.cell? ⟨w3.heap.size, 1, none⟩ = some (.int .i64 a1) := (XA.cell 1).trans rfl
      have ka2 : wr.cell? ⟨w3.heap.size, 2, none⟩ = some (.int .i64 a2) := (XA.cell 2).trans rfl
      have ka3 : wr.cell? ⟨w3.heap.size, 3, none⟩ = some (.int .i64 a3) := (XA.cell 3).trans rfl
      have kb0 : wr.cell? ⟨w4.heap.size, 0, none⟩ = some (.int .i64 b0) := (XB.cell 0).trans rfl
      have kb1 : wr.cell? ⟨w4.heap.size, 1, none⟩ = some (.int .i64 b1) := (XB.cell 1).trans rfl
      have kb2 : wr.cell? ⟨w4.heap.size, 2, none⟩ = some (.int .i64 b2) := (XB.cell 2).trans rfl
      have kb3 : wr.cell? ⟨w4.heap.size, 3, none⟩ = some (.int .i64 b3) := (XB.cell 3).trans rfl
      have kc0 : wr.cell? ⟨w5.heap.size, 0, none⟩ = some (.int .i64 0) := (XC.cell 0).trans rfl
      have kc1 : wr.cell? ⟨w5.heap.size, 1, none⟩ = some (.int .i64 0) := (XC.cell 1).trans rfl
      have kc2 : wr.cell? ⟨w5.heap.size, 2, none⟩ = some (.int .i64 0) := (XC.cell 2).trans rfl
      have kc3 : wr.cell? ⟨w5.heap.size, 3, none⟩ = some (.int .i64 0) := (XC.cell 3).trans rfl
      by_cases h3 : k = 3
      · subst h3
        go_wp2_with fail
        refine (AW.out _ hFr.out).mono ?_
        rintro e w9 ⟨rfl, hb9⟩
        go_wp2_with fail
        go_ret
        exact ⟨rfl, bl_then hb hb9⟩
      · obtain ⟨p, hkp, hp1, hp2⟩ : ∃ p : Int, wr.cell? ⟨w5.heap.size + 1, k, none⟩ = some (.int .i64 p) ∧ 2147483587 ≤ p ∧ p ≤ 2147483647 := by
          have hpr := hpr.out
          have : k = 0 ∨ k = 1 ∨ k = 2 := by omega
          rcases this with rfl | rfl | rfl
          · exact ⟨p0, (XP.cell 0).trans rfl, hpr.1⟩
          · exact ⟨p1, (XP.cell 1).trans rfl, hpr.2.1⟩
          · exact ⟨p2, (XP.cell 2).trans rfl, hpr.2.2⟩
        have x0 := mod_range (x := a0) (p := p) (by omega)
        have x1 := mod_range (x := a1) (p := p) (by omega)
        have x2 := mod_range (x := a2) (p := p) (by omega)
        have x3 := mod_range (x := a3) (p := p) (by omega)
        have y0 := mod_range (x := b0) (p := p) (by omega)
        have y1 := mod_range (x := b1) (p := p) (by omega)
        have y2 := mod_range (x := b2) (p := p) (by omega)
        have y3 := mod_range (x := b3) (p := p) (by omega)
        have d1 := prod_range x0 x3 hp2
        have d2 := prod_range x1 x2 hp2
        have hd := HD.out p (by omega)
        have hk3 : k < 3 := by omega
        rcases hd with hd | hd
        · have hp3 : 1 < p := by omega
          go_wp2_with fail
          go_quiet (fail)
          have hF6 := hFr.out.kept (bl_drewN (bl_refl _) nq)
          go_wp2_with fail
          go_roundw
          case rel => exact ⟨k + 1, by omega, by go_num, XA.drewN _, XB.drewN _, XC.drewN _, ⟨p0, p1, p2, XP.drewN _, hpr⟩, hFr.out.kept (bl_drewN (bl_refl _) _), bl_drewN hb _⟩
          case measure => simp [intOf]; omega
        · have hp3 : 1 < p := by omega
          have hq1 : ((a0 % p * (a3 % p) - a1 % p * (a2 % p)).tmod p != 1) = true := by rw [hd, bne_iff_ne]; omega
          have hq2 : ((a0 % p * (a3 % p) - a1 % p * (a2 % p)).tmod p != 1 - p) = false := by rw [hd]; simp
          have hq3 : ((1 - p : Int) != 1) = true := by rw [bne_iff_ne]; omega
          go_wp2_with fail
          go_quiet (fail)
          have hF6 := hFr.out.kept (bl_drewN (bl_refl _) nq)
          go_wp2_with fail
          go_roundw
          case rel => exact ⟨k + 1, by omega, by go_num, XA.drewN _, XB.drewN _, XC.drewN _, ⟨p0, p1, p2, XP.drewN _, hpr⟩, hFr.out.kept (bl_drewN (bl_refl _) _), bl_drewN hb _⟩
          case measure => simp [intOf]; omega
  · obtain ⟨mc, me⟩ := matrix_fits hwc hb
    rw [hmc] at mc
    have MC : Hid (∀ W, Calls Tryd.prog 28 #[.string (v ++ u)] W fun e w' => e = .returned (.tuple #[.agg #[.int .i64 c0, .int .i64 c1, .int .i64 c2, .int .i64 c3], .int .i64 0]) ∧ Below W.heap.size W w') := by
      intro W
      have := MC0 W
      rw [mc, me] at this
      exact this
    have hb' : c0 ≤ 1152921504606846976 ∧ c1 ≤ 1152921504606846976 ∧ c2 ≤ 1152921504606846976 ∧ c3 ≤ 1152921504606846976 := by
      rw [hmc] at hb
      unfold M4.big at hb
      simp only at hb
      omega
    clear mc me hb MC0 hmc hc0 hc1 hc2 hc3 hcat hwc hva hua hma hmb hda hdb
    go_enter Tryd.func9, Tryd.ntmps9
    go_wp2_with fail
    refine (LA.out _).mono ?_
    rintro e w1 ⟨rfl, hb1⟩
    go_wp2_with fail
    refine (LB.out _).mono ?_
    rintro e w2 ⟨rfl, hb2⟩
    have hF2 := (hF.kept hb1).kept hb2
    have hbA := bl_then hb1 hb2
    go_wp2_with fail
    refine (MA.out _).mono ?_
    rintro e w3 ⟨rfl, hb3⟩
    have hF3 := (hF2.kept hb3).kept (bl_alloc (bl_refl _) (.cells #[.int .i64 a0, .int .i64 a1, .int .i64 a2, .int .i64 a3] 37))
    have hbB := bl_alloc (bl_then hbA hb3) (.cells #[.int .i64 a0, .int .i64 a1, .int .i64 a2, .int .i64 a3] 37)
    have WA := Whole.new w3 37 #[.int .i64 a0, .int .i64 a1, .int .i64 a2, .int .i64 a3]
    go_wp2_with fail
    refine (MB.out _).mono ?_
    rintro e w4 ⟨rfl, hb4⟩
    have hF4 := (hF3.kept hb4).kept (bl_alloc (bl_refl _) (.cells #[.int .i64 b0, .int .i64 b1, .int .i64 b2, .int .i64 b3] 37))
    have hbC := bl_alloc (bl_then hbB hb4) (.cells #[.int .i64 b0, .int .i64 b1, .int .i64 b2, .int .i64 b3] 37)
    have WA := (WA.kept hb4).alloc (.cells #[.int .i64 b0, .int .i64 b1, .int .i64 b2, .int .i64 b3] 37)
    have WB := Whole.new w4 37 #[.int .i64 b0, .int .i64 b1, .int .i64 b2, .int .i64 b3]
    go_wp2_with fail
    refine (MC.out _).mono ?_
    rintro e w5 ⟨rfl, hb5⟩
    have hF5 := (hF4.kept hb5).kept (bl_alloc (bl_refl _) (.cells #[.int .i64 c0, .int .i64 c1, .int .i64 c2, .int .i64 c3] 37))
    have hbD := bl_alloc (bl_then hbC hb5) (.cells #[.int .i64 c0, .int .i64 c1, .int .i64 c2, .int .i64 c3] 37)
    have WA := WA.kept hb5
    have WB := WB.kept hb5
    have ka0 : w5.cell? ⟨w3.heap.size, 0, none⟩ = some (.int .i64 a0) := (WA.cell 0).trans rfl
    have ka1 : w5.cell? ⟨w3.heap.size, 1, none⟩ = some (.int .i64 a1) := (WA.cell 1).trans rfl
    have ka2 : w5.cell? ⟨w3.heap.size, 2, none⟩ = some (.int .i64 a2) := (WA.cell 2).trans rfl
    have ka3 : w5.cell? ⟨w3.heap.size, 3, none⟩ = some (.int .i64 a3) := (WA.cell 3).trans rfl
    have kb0 : w5.cell? ⟨w4.heap.size, 0, none⟩ = some (.int .i64 b0) := (WB.cell 0).trans rfl
    have kb1 : w5.cell? ⟨w4.heap.size, 1, none⟩ = some (.int .i64 b1) := (WB.cell 1).trans rfl
    have kb2 : w5.cell? ⟨w4.heap.size, 2, none⟩ = some (.int .i64 b2) := (WB.cell 2).trans rfl
    have kb3 : w5.cell? ⟨w4.heap.size, 3, none⟩ = some (.int .i64 b3) := (WB.cell 3).trans rfl
    have hsA := WA.lt
    have hsB := WB.lt
    have WC := Whole.new w5 37 #[.int .i64 c0, .int .i64 c1, .int .i64 c2, .int .i64 c3]
    clear LA LB MA MB MC hb1 hb2 hb3 hb4 hb5 hbA hbB hbC hF2 hF3 hF4
    go_wp2_with fail
    refine wp_loop_rounds 5 ?_; rw [rounds_succ]
    go_wp2_with fail
    rw [rounds_succ]
    go_wp2_with fail
    rw [rounds_succ]
    go_wp2_with fail
    rw [rounds_succ]
    go_wp2_with fail
    rw [rounds_succ]
    go_wp2_with fail
    go_loopw [15] (fun i wr => ∃ k : Nat, k ≤ 3 ∧ i = .int .i64 k ∧ Whole wr w3.heap.size 37 #[.int .i64 a0, .int .i64 a1, .int .i64 a2, .int .i64 a3] ∧ Whole wr w4.heap.size 37 #[.int .i64 b0, .int .i64 b1, .int .i64 b2, .int .i64 b3] ∧ Whole wr w5.heap.size 37 #[.int .i64 c0, .int .i64 c1, .int .i64 c2, .int .i64 c3] ∧
      (∃ p0 p1 p2 : Int, Whole wr (w5.heap.size + 1) 22 #[.int .i64 p0, .int .i64 p1, .int .i64 p2] ∧ Hid ((2147483587 ≤ p0 ∧ p0 ≤ 2147483647) ∧ (2147483587 ≤ p1 ∧ p1 ≤ 2147483647) ∧ (2147483587 ≤ p2 ∧ p2 ≤ 2147483647))) ∧
      Hid (FirstAt wr) ∧ Below w.heap.size w wr) (fun i _ => 3 - (intOf i).toNat)
    case atStart => exact ⟨0, by omega, rfl, (WA.alloc _).alloc _, (WB.alloc _).alloc _, WC.alloc _, ⟨_, _, _, Whole.new2 w5 _ _ _, ⟨⟨by omega, by omega⟩, ⟨by omega, by omega⟩, ⟨by omega, by omega⟩⟩⟩, hF5.kept (bl_alloc (bl_refl _) _), bl_alloc hbD _⟩
    case round =>
      obtain ⟨k, hk, rfl, XA, XB, XC, ⟨p0, p1, p2, XP, hpr⟩, hFr, hb⟩ := hrel
      clear WA WB WC ka0 ka1 ka2 ka3 kb0 kb1 kb2 kb3 hsA hsB hF5 hbD
      have HZ : Hid (w3.heap.size < wr.heap.size ∧ w4.heap.size < wr.heap.size ∧ w5.heap.size < wr.heap.size) := ⟨XA.lt, XB.lt, XC.lt⟩
      have ka0 : wr.cell? ⟨w3.heap.size, 0, none⟩ = some (.int .i64 a0) := (XA.cell 0).trans rfl
      have ka1 : wr.cell? ⟨w3.heap.size, 1, none⟩ = some (.int .i64 a1) := (XA.cell 1).trans rfl
      have ka2 : wr.cell? ⟨w3.heap.size, 2, none⟩ = some (.int .i64 a2) := (XA.cell 2).trans rfl
      have ka3 : wr.cell? ⟨w3.heap.size, 3, none⟩ = some (.int .i64 a3) := (XA.cell 3).trans rfl
      have kb0 : wr.cell? ⟨w4.heap.size, 0, none⟩ = some (.int .i64 b0) := (XB.cell 0).trans rfl
      have kb1 : wr.cell? ⟨w4.heap.size, 1, none⟩ = some (.int .i64 b1) := (XB.cell 1).trans rfl
      have kb2 : wr.cell? ⟨w4.heap.size, 2, none⟩ = some (.int .i64 b2) := (XB.cell 2).trans rfl
      have kb3 : wr.cell? ⟨w4.heap.size, 3, none⟩ = some (.int .i64 b3) := (XB.cell 3).trans rfl
      have kc0 : wr.cell? ⟨w5.heap.size, 0, none⟩ = some (.int .i64 c0) := (XC.cell 0).trans rfl
      have kc1 : wr.cell? ⟨w5.heap.size, 1, none⟩ = some (.int .i64 c1) := (XC.cell 1).trans rfl
      have kc2 : wr.cell? ⟨w5.heap.size, 2, none⟩ = some (.int .i64 c2) := (XC.cell 2).trans rfl
      have kc3 : wr.cell? ⟨w5.heap.size, 3, none⟩ = some (.int .i64 c3) := (XC.cell 3).trans rfl
      by_cases h3 : k = 3
      · subst h3
        go_wp2_with fail
        refine (AW.out _ hFr.out).mono ?_
        rintro e w9 ⟨rfl, hb9⟩
        go_wp2_with fail
        go_ret
        exact ⟨rfl, bl_then hb hb9⟩
      · obtain ⟨p, hkp, hp1, hp2⟩ : ∃ p : Int, wr.cell? ⟨w5.heap.size + 1, k, none⟩ = some (.int .i64 p) ∧ 2147483587 ≤ p ∧ p ≤ 2147483647 := by
          have hpr := hpr.out
          have : k = 0 ∨ k = 1 ∨ k = 2 := by omega
          rcases this with rfl | rfl | rfl
          · exact ⟨p0, (XP.cell 0).trans rfl, hpr.1⟩
          · exact ⟨p1, (XP.cell 1).trans rfl, hpr.2.1⟩
          · exact ⟨p2, (XP.cell 2).trans rfl, hpr.2.2⟩
        have x0 := mod_range (x := a0) (p := p) (by omega)
        have x1 := mod_range (x := a1) (p := p) (by omega)
        have x2 := mod_range (x := a2) (p := p) (by omega)
        have x3 := mod_range (x := a3) (p := p) (by omega)
        have y0 := mod_range (x := b0) (p := p) (by omega)
        have y1 := mod_range (x := b1) (p := p) (by omega)
        have y2 := mod_range (x := b2) (p := p) (by omega)
        have y3 := mod_range (x := b3) (p := p) (by omega)
        have d1 := prod_range x0 x3 hp2
        have d2 := prod_range x1 x2 hp2
        have hd := HD.out p (by omega)
        have e00 := prod_range x0 y0 hp2
        have f00 := mod_range (x := a0 % p * (b0 % p)) (p := p) (by omega)
        have e12 := prod_range x1 y2 hp2
        have f12 := mod_range (x := a1 % p * (b2 % p)) (p := p) (by omega)
        have e01 := prod_range x0 y1 hp2
        have f01 := mod_range (x := a0 % p * (b1 % p)) (p := p) (by omega)
        have e13 := prod_range x1 y3 hp2
        have f13 := mod_range (x := a1 % p * (b3 % p)) (p := p) (by omega)
        have e20 := prod_range x2 y0 hp2
        have f20 := mod_range (x := a2 % p * (b0 % p)) (p := p) (by omega)
        have e32 := prod_range x3 y2 hp2
        have f32 := mod_range (x := a3 % p * (b2 % p)) (p := p) (by omega)
        have e21 := prod_range x2 y1 hp2
        have f21 := mod_range (x := a2 % p * (b1 % p)) (p := p) (by omega)
        have e33 := prod_range x3 y3 hp2
        have f33 := mod_range (x := a3 % p * (b3 % p)) (p := p) (by omega)
        obtain ⟨E0, E1, E2, E3⟩ := HE.out p
        have hk3 : k < 3 := by omega
        rcases hd with hd | hd
        · have hp3 : 1 < p := by omega
          go_wp2_with fail
          go_quiet (fail)
          have hF6 := hFr.out.kept (bl_drewN (bl_refl _) nq)
          go_wp2_with fail
          refine wp_loop_rounds 5 ?_; rw [rounds_succ]
          go_wp2_with fail
          go_quiet (fail)
          go_wp2_with fail
          rw [rounds_succ]
          go_wp2_with fail
          go_quiet (fail)
          go_wp2_with fail
          rw [rounds_succ]
          go_wp2_with fail
          go_quiet (fail)
          go_wp2_with fail
          rw [rounds_succ]
          go_wp2_with fail
          go_quiet (fail)
          go_wp2_with fail
          rw [rounds_succ]
          go_wp2_with fail
          go_roundw
          case rel => exact ⟨k + 1, by omega, by go_num, XA.drewN _, XB.drewN _, XC.drewN _, ⟨p0, p1, p2, XP.drewN _, hpr⟩, hFr.out.kept (bl_drewN (bl_refl _) _), bl_drewN hb _⟩
          case measure => simp [intOf]; omega
        · have hp3 : 1 < p := by omega
          have hq1 : ((a0 % p * (a3 % p) - a1 % p * (a2 % p)).tmod p != 1) = true := by rw [hd, bne_iff_ne]; omega
          have hq2 : ((a0 % p * (a3 % p) - a1 % p * (a2 % p)).tmod p != 1 - p) = false := by rw [hd]; simp
          have hq3 : ((1 - p : Int) != 1) = true := by rw [bne_iff_ne]; omega
          go_wp2_with fail
          go_quiet (fail)
          have hF6 := hFr.out.kept (bl_drewN (bl_refl _) nq)
          go_wp2_with fail
          refine wp_loop_rounds 5 ?_; rw [rounds_succ]
          go_wp2_with fail
          go_quiet (fail)
          go_wp2_with fail
          rw [rounds_succ]
          go_wp2_with fail
          go_quiet (fail)
          go_wp2_with fail
          rw [rounds_succ]
          go_wp2_with fail
          go_quiet (fail)
          go_wp2_with fail
          rw [rounds_succ]
          go_wp2_with fail
          go_quiet (fail)
          go_wp2_with fail
          rw [rounds_succ]
          go_wp2_with fail
          go_roundw
          case rel => exact ⟨k + 1, by omega, by go_num, XA.drewN _, XB.drewN _, XC.drewN _, ⟨p0, p1, p2, XP.drewN _, hpr⟩, hFr.out.kept (bl_drewN (bl_refl _) _), bl_drewN hb _⟩
          case measure => simp [intOf]; omega
end Go.Proofs.YtebpeomonglkbaaDoor
