/-
  Fraction, its loop: the numbers of letters behind a path.
-/
import Derived.Test.YtebpeomonglkbaaDoorW44
namespace Go.Proofs.YtebpeomonglkbaaDoor
open Go.RowKit Go.Sort Cam
set_option linter.unusedVariables false
set_option linter.unusedSimpArgs false

def cntT (s : ByteArray) : (Nat × Nat) × (Nat × Nat) := grT addP sumP 1000000000 s.data.toList true (1, 0) (0, 1)
def pairV (p q : Nat) : Value := .agg #[.int .i64 p, .int .i64 q]

set_option maxRecDepth 100000 in
set_option maxHeartbeats 4000000 in
theorem growP_any (s : ByteArray) (w : World) (hs : s.size ≤ 61) :
    Calls Tryd.prog 69 #[.string s, .agg #[.int .i64 1, .int .i64 0], .agg #[.int .i64 0, .int .i64 1], .func (.func 68) #[] #[], .func (.func 70) #[] #[], .int .i64 1000000000] w fun e w' =>
      ∃ p q : Nat, e = .returned (.tuple #[.agg #[.int .i64 p, .int .i64 q], .bool (decide (p + q ≤ 1000000000))]) ∧ Hid ((p, q) = addP (cntT s).1 (cntT s).2) ∧ Below w.heap.size w w' := by
  have HC : Hid (cntT s = grT addP sumP 1000000000 s.data.toList true (1, 0) (0, 1)) := rfl
  generalize cntT s = V at *
  go_enter Tryd.func69, Tryd.ntmps69
  go_wp2_with fail
  go_step3
  go_wp2_with fail
  go_step3
  go_wp2_with fail
  go_loopw [14, 24] (fun i0 i wr => ∃ (k : Nat) (n : Bool) (a b c d : Nat), k ≤ s.size ∧ i = .int .i64 k ∧ i0 = newV n ∧ Whole wr (w.heap.size + 2) 93 #[.int .i64 0, .int .i64 0] ∧ Whole wr (w.heap.size + 3) 104 #[.int .i64 a, .int .i64 b, .int .i64 c, .int .i64 d] ∧
    a + b ≤ 1000000000 ∧ c + d ≤ 1000000000 ∧ Hid (V = grT addP sumP 1000000000 (s.data.toList.drop k) n (a, b) (c, d)) ∧ Below w.heap.size w wr) (fun _ i _ => s.size - (intOf i).toNat)
  case atStart => exact ⟨0, true, 1, 0, 0, 1, Nat.zero_le _, rfl, rfl, (Whole.new' _ _ _ _ (by simp)).alloc _, Whole.new' _ _ _ _ (by simp), by omega, by omega, HC, bl_alloc (bl_alloc (bl_alloc (bl_alloc (bl_refl _) _) _) _) _⟩
  case round =>
    obtain ⟨k, n, a, b, c, d, hk, rfl, rfl, hR, hB, hab, hcd, HG, hb⟩ := hrel
    have k0 : wr.cell? ⟨w.heap.size + 3, 0, none⟩ = some (.int .i64 a) := (hB.cell 0).trans rfl
    have k1 : wr.cell? ⟨w.heap.size + 3, 1, none⟩ = some (.int .i64 b) := (hB.cell 1).trans rfl
    have k2 : wr.cell? ⟨w.heap.size + 3, 2, none⟩ = some (.int .i64 c) := (hB.cell 2).trans rfl
    have k3 : wr.cell? ⟨w.heap.size + 3, 3, none⟩ = some (.int .i64 d) := (hB.cell 3).trans rfl
    have J := Lib.hid fun W => join_phrase a b c d W (by omega) (by omega) (by omega) (by omega)
    obtain ⟨p, hp⟩ : ∃ p : Nat, p = a + c := ⟨_, rfl⟩
    obtain ⟨q, hq⟩ : ∃ q : Nat, q = b + d := ⟨_, rfl⟩
    rw [show (a : Int) + c = p by omega, show (b : Int) + d = q by omega] at J
    have S := Lib.hid fun W => size_phrase p q W (by omega) (by omega)
    obtain ⟨z, hz⟩ : ∃ z : Int, z = min ((p : Int) + q) 4000000000 := ⟨_, rfl⟩
    rw [← hz] at S
    have HZ := Lib.hid hz
    have HA : Hid (addP (a, b) (c, d) = (p, q)) := by rw [hp, hq]; rfl
    have hsz := hB.lt
    by_cases hlt : k < s.size
    · have hkl : k < s.data.toList.length := by rw [show s.data.toList.length = s.size from Array.length_toList]; exact hlt
      have HD : Hid (s.data.toList.drop k = s[k] :: s.data.toList.drop (k + 1)) := List.drop_eq_getElem_cons hkl
      by_cases hm : 1000000000 < p + q
      · have hz' : 1000000000 < z := by omega
        have HE : Hid ((p, q) = addP V.1 V.2) := by
          show _ = _
          rw [HG.out, HD.out]
          simp only [grT]
          rw [HA.out, if_pos (show 1000000000 < sumP (p, q) from hm), HA.out]
        clear HG HD hz hp hq HA HC
        go_wp2_with fail
        refine (J.out _).mono ?_
        rintro e w1 ⟨rfl, hbw1⟩
        have hBw1 := hB.kept hbw1
        have hRw1 := hR.kept hbw1
        go_wp2_with fail
        refine (S.out _).mono ?_
        rintro e w2 ⟨rfl, hbw2⟩
        have hTw2 := (Whole.new w1 93 #[.int .i64 p, .int .i64 q]).kept hbw2
        have t0w2 : w2.cell? ⟨w1.heap.size, 0, none⟩ = some (.int .i64 p) := (hTw2.cell 0).trans rfl
        have t1w2 : w2.cell? ⟨w1.heap.size, 1, none⟩ = some (.int .i64 q) := (hTw2.cell 1).trans rfl
        have htw2 := hTw2.lt
        have hBw2 := (hBw1.alloc (.cells #[.int .i64 p, .int .i64 q] 93)).kept hbw2
        have hRw2 := (hRw1.alloc (.cells #[.int .i64 p, .int .i64 q] 93)).kept hbw2
        have a0w2 : w2.cell? ⟨w.heap.size + 3, 0, none⟩ = some (.int .i64 a) := (hBw2.cell 0).trans rfl
        have a1w2 : w2.cell? ⟨w.heap.size + 3, 1, none⟩ = some (.int .i64 b) := (hBw2.cell 1).trans rfl
        have a2w2 : w2.cell? ⟨w.heap.size + 3, 2, none⟩ = some (.int .i64 c) := (hBw2.cell 2).trans rfl
        have a3w2 : w2.cell? ⟨w.heap.size + 3, 3, none⟩ = some (.int .i64 d) := (hBw2.cell 3).trans rfl
        have f0w2 := hBw2.frozen 0
        have f1w2 := hBw2.frozen 1
        have f2w2 := hBw2.frozen 2
        have f3w2 := hBw2.frozen 3
        have hsw2 := hBw2.lt
        have hrw2 := hRw2.lt
        have g0w2 := hRw2.frozen 0
        have g1w2 := hRw2.frozen 1
        have r0w2 : w2.cell? ⟨w.heap.size + 2, 0, none⟩ = some (.int .i64 0) := (hRw2.cell 0).trans rfl
        have r1w2 : w2.cell? ⟨w.heap.size + 2, 1, none⟩ = some (.int .i64 0) := (hRw2.cell 1).trans rfl
        have hb2 := bl_then (bl_alloc (bl_then hb hbw1) (.cells #[.int .i64 p, .int .i64 q] 93)) hbw2
        go_wp2_with fail
        refine (J.out _).mono ?_
        rintro e w3 ⟨rfl, hbw3⟩
        have hBw3 := hBw2.kept hbw3
        have hRw3 := hRw2.kept hbw3
        have hbF := bl_alloc (bl_then hb2 hbw3) (.cells #[.int .i64 p, .int .i64 q] 93)
        have hlw : w.heap.size ≤ w3.heap.size := Nat.le_of_succ_le (Nat.le_trans (by omega) (Nat.le_of_lt hBw3.lt))
        go_wp2_with fail
        go_region_with (go_at_call 70; refine (S.out _).mono ?_; rintro e wz ⟨rfl, hbz⟩; have hTz := ((Whole.new w3 93 #[.int .i64 p, .int .i64 q]).drewN 1).kept hbz; have t0z : wz.cell? ⟨w3.heap.size, 0, none⟩ = some (.int .i64 p) := (hTz.cell 0).trans rfl; have t1z : wz.cell? ⟨w3.heap.size, 1, none⟩ = some (.int .i64 q) := (hTz.cell 1).trans rfl; have htz := hTz.lt; have hRz := ((hRw3.alloc (.cells #[.int .i64 p, .int .i64 q] 93)).drewN 1).kept hbz; have g0z := hRz.frozen 0; have g1z := hRz.frozen 1; have hrz := hRz.lt; have r0z : wz.cell? ⟨w.heap.size + 2, 0, none⟩ = some (.int .i64 0) := (hRz.cell 0).trans rfl; have r1z : wz.cell? ⟨w.heap.size + 2, 1, none⟩ = some (.int .i64 0) := (hRz.cell 1).trans rfl)
        all_goals
          go_wp2_with fail
          rw [Exit.noGoto_ret]
          exact bodyPost_ret (res_cell_tmp (g := w.heap.size + 2) Tryd.results69 rfl (((hRz.set 0 _).set 1 _).load Tryd.underlying93 rfl arr93)) rfl ⟨p, q, ret2b (by have := HZ.out; first | exact decide_eq_decide.2 (by omega) | (simp; omega)), HE, bl_set (bl_set (bl_then (bl_drewN hbF 1) hbz) (show w.heap.size ≤ w.heap.size + 2 by omega) _) (show w.heap.size ≤ w.heap.size + 2 by omega) _⟩
      · have hz' : z ≤ 1000000000 := by omega
        by_cases hc : s[k] = 76
        · have hc1 : ((s[k].toNat : Int) == 76) = true := by rw [hc]; rfl
          cases n
          · have HG2 : Hid (V = grT addP sumP 1000000000 (s.data.toList.drop (k + 1)) true (a, b) (p, q)) := by
              show _ = _
              rw [HG.out, HD.out]
              simp only [grT]
              rw [HA.out, if_neg (show ¬ 1000000000 < sumP (p, q) from hm)]
              simp [flipN, hc]
            clear HG HD hz hp hq HA HC
            simp only [newV, Bool.false_eq_true, if_false, if_true]
            clear hc
            go_wp2_with fail
            refine (J.out _).mono ?_
            rintro e w1 ⟨rfl, hbw1⟩
            have hBw1 := hB.kept hbw1
            have hRw1 := hR.kept hbw1
            go_wp2_with fail
            refine (S.out _).mono ?_
            rintro e w2 ⟨rfl, hbw2⟩
            have hTw2 := (Whole.new w1 93 #[.int .i64 p, .int .i64 q]).kept hbw2
            have t0w2 : w2.cell? ⟨w1.heap.size, 0, none⟩ = some (.int .i64 p) := (hTw2.cell 0).trans rfl
            have t1w2 : w2.cell? ⟨w1.heap.size, 1, none⟩ = some (.int .i64 q) := (hTw2.cell 1).trans rfl
            have htw2 := hTw2.lt
            have hBw2 := (hBw1.alloc (.cells #[.int .i64 p, .int .i64 q] 93)).kept hbw2
            have hRw2 := (hRw1.alloc (.cells #[.int .i64 p, .int .i64 q] 93)).kept hbw2
            have a0w2 : w2.cell? ⟨w.heap.size + 3, 0, none⟩ = some (.int .i64 a) := (hBw2.cell 0).trans rfl
            have a1w2 : w2.cell? ⟨w.heap.size + 3, 1, none⟩ = some (.int .i64 b) := (hBw2.cell 1).trans rfl
            have a2w2 : w2.cell? ⟨w.heap.size + 3, 2, none⟩ = some (.int .i64 c) := (hBw2.cell 2).trans rfl
            have a3w2 : w2.cell? ⟨w.heap.size + 3, 3, none⟩ = some (.int .i64 d) := (hBw2.cell 3).trans rfl
            have f0w2 := hBw2.frozen 0
            have f1w2 := hBw2.frozen 1
            have f2w2 := hBw2.frozen 2
            have f3w2 := hBw2.frozen 3
            have hsw2 := hBw2.lt
            have hrw2 := hRw2.lt
            have g0w2 := hRw2.frozen 0
            have g1w2 := hRw2.frozen 1
            have r0w2 : w2.cell? ⟨w.heap.size + 2, 0, none⟩ = some (.int .i64 0) := (hRw2.cell 0).trans rfl
            have r1w2 : w2.cell? ⟨w.heap.size + 2, 1, none⟩ = some (.int .i64 0) := (hRw2.cell 1).trans rfl
            have hb2 := bl_then (bl_alloc (bl_then hb hbw1) (.cells #[.int .i64 p, .int .i64 q] 93)) hbw2
            go_wp2_with fail
            go_roundw
            case rel => exact ⟨k + 1, true, a, b, p, q, by omega, by go_num, rfl, (hRw2.far (p := ⟨w.heap.size + 3, 2, none⟩) (by simp) _).far (p := ⟨w.heap.size + 3, 3, none⟩) (by simp) _, (hBw2.set 2 _).set 3 _, by omega, by omega, HG2, bl_set (bl_set hb2 (show w.heap.size ≤ w.heap.size + 3 by omega) _) (show w.heap.size ≤ w.heap.size + 3 by omega) _⟩
            case measure => simp [intOf]; omega
          · have HG2 : Hid (V = grT addP sumP 1000000000 (s.data.toList.drop (k + 1)) false (p, q) (c, d)) := by
              show _ = _
              rw [HG.out, HD.out]
              simp only [grT]
              rw [HA.out, if_neg (show ¬ 1000000000 < sumP (p, q) from hm)]
              simp [flipN, hc]
            clear HG HD hz hp hq HA HC
            simp only [newV, Bool.false_eq_true, if_false, if_true]
            clear hc
            go_wp2_with fail
            refine (J.out _).mono ?_
            rintro e w1 ⟨rfl, hbw1⟩
            have hBw1 := hB.kept hbw1
            have hRw1 := hR.kept hbw1
            go_wp2_with fail
            refine (S.out _).mono ?_
            rintro e w2 ⟨rfl, hbw2⟩
            have hTw2 := (Whole.new w1 93 #[.int .i64 p, .int .i64 q]).kept hbw2
            have t0w2 : w2.cell? ⟨w1.heap.size, 0, none⟩ = some (.int .i64 p) := (hTw2.cell 0).trans rfl
            have t1w2 : w2.cell? ⟨w1.heap.size, 1, none⟩ = some (.int .i64 q) := (hTw2.cell 1).trans rfl
            have htw2 := hTw2.lt
            have hBw2 := (hBw1.alloc (.cells #[.int .i64 p, .int .i64 q] 93)).kept hbw2
            have hRw2 := (hRw1.alloc (.cells #[.int .i64 p, .int .i64 q] 93)).kept hbw2
            have a0w2 : w2.cell? ⟨w.heap.size + 3, 0, none⟩ = some (.int .i64 a) := (hBw2.cell 0).trans rfl
            have a1w2 : w2.cell? ⟨w.heap.size + 3, 1, none⟩ = some (.int .i64 b) := (hBw2.cell 1).trans rfl
            have a2w2 : w2.cell? ⟨w.heap.size + 3, 2, none⟩ = some (.int .i64 c) := (hBw2.cell 2).trans rfl
            have a3w2 : w2.cell? ⟨w.heap.size + 3, 3, none⟩ = some (.int .i64 d) := (hBw2.cell 3).trans rfl
            have f0w2 := hBw2.frozen 0
            have f1w2 := hBw2.frozen 1
            have f2w2 := hBw2.frozen 2
            have f3w2 := hBw2.frozen 3
            have hsw2 := hBw2.lt
            have hrw2 := hRw2.lt
            have g0w2 := hRw2.frozen 0
            have g1w2 := hRw2.frozen 1
            have r0w2 : w2.cell? ⟨w.heap.size + 2, 0, none⟩ = some (.int .i64 0) := (hRw2.cell 0).trans rfl
            have r1w2 : w2.cell? ⟨w.heap.size + 2, 1, none⟩ = some (.int .i64 0) := (hRw2.cell 1).trans rfl
            have hb2 := bl_then (bl_alloc (bl_then hb hbw1) (.cells #[.int .i64 p, .int .i64 q] 93)) hbw2
            go_wp2_with fail
            go_roundw
            case rel => exact ⟨k + 1, false, p, q, c, d, by omega, by go_num, rfl, (hRw2.far (p := ⟨w.heap.size + 3, 0, none⟩) (by simp) _).far (p := ⟨w.heap.size + 3, 1, none⟩) (by simp) _, (hBw2.set 0 _).set 1 _, by omega, by omega, HG2, bl_set (bl_set hb2 (show w.heap.size ≤ w.heap.size + 3 by omega) _) (show w.heap.size ≤ w.heap.size + 3 by omega) _⟩
            case measure => simp [intOf]; omega
        · have hc1 : ((s[k].toNat : Int) == 76) = false := by
            rw [beq_eq_false_iff_ne]; intro e; exact hc (UInt8.toNat_inj.1 (by have : (76 : UInt8).toNat = 76 := rfl; omega))
          cases n
          · have HG2 : Hid (V = grT addP sumP 1000000000 (s.data.toList.drop (k + 1)) false (p, q) (c, d)) := by
              show _ = _
              rw [HG.out, HD.out]
              simp only [grT]
              rw [HA.out, if_neg (show ¬ 1000000000 < sumP (p, q) from hm)]
              simp [flipN, hc]
            clear HG HD hz hp hq HA HC
            simp only [newV, Bool.false_eq_true, if_false, if_true]
            clear hc
            go_wp2_with fail
            refine (J.out _).mono ?_
            rintro e w1 ⟨rfl, hbw1⟩
            have hBw1 := hB.kept hbw1
            have hRw1 := hR.kept hbw1
            go_wp2_with fail
            refine (S.out _).mono ?_
            rintro e w2 ⟨rfl, hbw2⟩
            have hTw2 := (Whole.new w1 93 #[.int .i64 p, .int .i64 q]).kept hbw2
            have t0w2 : w2.cell? ⟨w1.heap.size, 0, none⟩ = some (.int .i64 p) := (hTw2.cell 0).trans rfl
            have t1w2 : w2.cell? ⟨w1.heap.size, 1, none⟩ = some (.int .i64 q) := (hTw2.cell 1).trans rfl
            have htw2 := hTw2.lt
            have hBw2 := (hBw1.alloc (.cells #[.int .i64 p, .int .i64 q] 93)).kept hbw2
            have hRw2 := (hRw1.alloc (.cells #[.int .i64 p, .int .i64 q] 93)).kept hbw2
            have a0w2 : w2.cell? ⟨w.heap.size + 3, 0, none⟩ = some (.int .i64 a) := (hBw2.cell 0).trans rfl
            have a1w2 : w2.cell? ⟨w.heap.size + 3, 1, none⟩ = some (.int .i64 b) := (hBw2.cell 1).trans rfl
            have a2w2 : w2.cell? ⟨w.heap.size + 3, 2, none⟩ = some (.int .i64 c) := (hBw2.cell 2).trans rfl
            have a3w2 : w2.cell? ⟨w.heap.size + 3, 3, none⟩ = some (.int .i64 d) := (hBw2.cell 3).trans rfl
            have f0w2 := hBw2.frozen 0
            have f1w2 := hBw2.frozen 1
            have f2w2 := hBw2.frozen 2
            have f3w2 := hBw2.frozen 3
            have hsw2 := hBw2.lt
            have hrw2 := hRw2.lt
            have g0w2 := hRw2.frozen 0
            have g1w2 := hRw2.frozen 1
            have r0w2 : w2.cell? ⟨w.heap.size + 2, 0, none⟩ = some (.int .i64 0) := (hRw2.cell 0).trans rfl
            have r1w2 : w2.cell? ⟨w.heap.size + 2, 1, none⟩ = some (.int .i64 0) := (hRw2.cell 1).trans rfl
            have hb2 := bl_then (bl_alloc (bl_then hb hbw1) (.cells #[.int .i64 p, .int .i64 q] 93)) hbw2
            go_wp2_with fail
            go_roundw
            case rel => exact ⟨k + 1, false, p, q, c, d, by omega, by go_num, rfl, (hRw2.far (p := ⟨w.heap.size + 3, 0, none⟩) (by simp) _).far (p := ⟨w.heap.size + 3, 1, none⟩) (by simp) _, (hBw2.set 0 _).set 1 _, by omega, by omega, HG2, bl_set (bl_set hb2 (show w.heap.size ≤ w.heap.size + 3 by omega) _) (show w.heap.size ≤ w.heap.size + 3 by omega) _⟩
            case measure => simp [intOf]; omega
          · have HG2 : Hid (V = grT addP sumP 1000000000 (s.data.toList.drop (k + 1)) true (a, b) (p, q)) := by
              show _ = _
              rw [HG.out, HD.out]
              simp only [grT]
              rw [HA.out, if_neg (show ¬ 1000000000 < sumP (p, q) from hm)]
              simp [flipN, hc]
            clear HG HD hz hp hq HA HC
            simp only [newV, Bool.false_eq_true, if_false, if_true]
            clear hc
            go_wp2_with fail
            refine (J.out _).mono ?_
            rintro e w1 ⟨rfl, hbw1⟩
            have hBw1 := hB.kept hbw1
            have hRw1 := hR.kept hbw1
            go_wp2_with fail
            refine (S.out _).mono ?_
            rintro e w2 ⟨rfl, hbw2⟩
            have hTw2 := (Whole.new w1 93 #[.int .i64 p, .int .i64 q]).kept hbw2
            have t0w2 : w2.cell? ⟨w1.heap.size, 0, none⟩ = some (.int .i64 p) := (hTw2.cell 0).trans rfl
            have t1w2 : w2.cell? ⟨w1.heap.size, 1, none⟩ = some (.int .i64 q) := (hTw2.cell 1).trans rfl
            have htw2 := hTw2.lt
            have hBw2 := (hBw1.alloc (.cells #[.int .i64 p, .int .i64 q] 93)).kept hbw2
            have hRw2 := (hRw1.alloc (.cells #[.int .i64 p, .int .i64 q] 93)).kept hbw2
            have a0w2 : w2.cell? ⟨w.heap.size + 3, 0, none⟩ = some (.int .i64 a) := (hBw2.cell 0).trans rfl
            have a1w2 : w2.cell? ⟨w.heap.size + 3, 1, none⟩ = some (.int .i64 b) := (hBw2.cell 1).trans rfl
            have a2w2 : w2.cell? ⟨w.heap.size + 3, 2, none⟩ = some (.int .i64 c) := (hBw2.cell 2).trans rfl
            have a3w2 : w2.cell? ⟨w.heap.size + 3, 3, none⟩ = some (.int .i64 d) := (hBw2.cell 3).trans rfl
            have f0w2 := hBw2.frozen 0
            have f1w2 := hBw2.frozen 1
            have f2w2 := hBw2.frozen 2
            have f3w2 := hBw2.frozen 3
            have hsw2 := hBw2.lt
            have hrw2 := hRw2.lt
            have g0w2 := hRw2.frozen 0
            have g1w2 := hRw2.frozen 1
            have r0w2 : w2.cell? ⟨w.heap.size + 2, 0, none⟩ = some (.int .i64 0) := (hRw2.cell 0).trans rfl
            have r1w2 : w2.cell? ⟨w.heap.size + 2, 1, none⟩ = some (.int .i64 0) := (hRw2.cell 1).trans rfl
            have hb2 := bl_then (bl_alloc (bl_then hb hbw1) (.cells #[.int .i64 p, .int .i64 q] 93)) hbw2
            go_wp2_with fail
            go_roundw
            case rel => exact ⟨k + 1, true, a, b, p, q, by omega, by go_num, rfl, (hRw2.far (p := ⟨w.heap.size + 3, 2, none⟩) (by simp) _).far (p := ⟨w.heap.size + 3, 3, none⟩) (by simp) _, (hBw2.set 2 _).set 3 _, by omega, by omega, HG2, bl_set (bl_set hb2 (show w.heap.size ≤ w.heap.size + 3 by omega) _) (show w.heap.size ≤ w.heap.size + 3 by omega) _⟩
            case measure => simp [intOf]; omega
    · have HE : Hid ((p, q) = addP V.1 V.2) := by
        show _ = _
        rw [HG.out, List.drop_of_length_le (by rw [show s.data.toList.length = s.size from Array.length_toList]; omega)]
        exact HA.out.symm
      clear HG hz hp hq HA HC
      go_wp2_with fail
      refine (J.out _).mono ?_
      rintro e w3 ⟨rfl, hbw3⟩
      have hBw3 := hB.kept hbw3
      have hRw3 := hR.kept hbw3
      have hbF := bl_alloc (bl_then hb hbw3) (.cells #[.int .i64 p, .int .i64 q] 93)
      have hlw : w.heap.size ≤ w3.heap.size := Nat.le_of_succ_le (Nat.le_trans (by omega) (Nat.le_of_lt hBw3.lt))
      go_wp2_with fail
      go_region_with (go_at_call 70; refine (S.out _).mono ?_; rintro e wz ⟨rfl, hbz⟩; have hTz := ((Whole.new w3 93 #[.int .i64 p, .int .i64 q]).drewN 1).kept hbz; have t0z : wz.cell? ⟨w3.heap.size, 0, none⟩ = some (.int .i64 p) := (hTz.cell 0).trans rfl; have t1z : wz.cell? ⟨w3.heap.size, 1, none⟩ = some (.int .i64 q) := (hTz.cell 1).trans rfl; have htz := hTz.lt; have hRz := ((hRw3.alloc (.cells #[.int .i64 p, .int .i64 q] 93)).drewN 1).kept hbz; have g0z := hRz.frozen 0; have g1z := hRz.frozen 1; have hrz := hRz.lt; have r0z : wz.cell? ⟨w.heap.size + 2, 0, none⟩ = some (.int .i64 0) := (hRz.cell 0).trans rfl; have r1z : wz.cell? ⟨w.heap.size + 2, 1, none⟩ = some (.int .i64 0) := (hRz.cell 1).trans rfl)
      all_goals
        go_wp2_with fail
        rw [Exit.noGoto_ret]
        exact bodyPost_ret (res_cell_tmp (g := w.heap.size + 2) Tryd.results69 rfl (((hRz.set 0 _).set 1 _).load Tryd.underlying93 rfl arr93)) rfl ⟨p, q, ret2b (by have := HZ.out; first | exact decide_eq_decide.2 (by omega) | (simp; omega)), HE, bl_set (bl_set (bl_then (bl_drewN hbF 1) hbz) (show w.heap.size ≤ w.heap.size + 2 by omega) _) (show w.heap.size ≤ w.heap.size + 2 by omega) _⟩
end Go.Proofs.YtebpeomonglkbaaDoor
