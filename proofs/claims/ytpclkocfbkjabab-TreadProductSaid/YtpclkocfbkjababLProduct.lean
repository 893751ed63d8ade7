/-
  The law TreadProduct: the walk.
-/
import Derived.Test.YtpclkocfbkjababT42
import Derived.Test.YtpclkocfbkjababT56
import Derived.Test.YtpclkocfbkjababT25
import Derived.Test.YtpclkocfbkjababA27
namespace Go.Proofs.Ytpclkocfbkjabab
open Go.RowKit Go.Shelf
set_option linter.unusedVariables false
set_option linter.unusedSimpArgs false

set_option maxRecDepth 100000 in
set_option maxHeartbeats 4000000 in
theorem TreadProduct_walk (x : Int) (v : Value) (ss : List ByteArray) (xn xm : Int) (W : World) (hx : (Lit.int .i64 x).wf = true) (hv : StrsAt W v ss) (hl : ss.length * 16 ≤ 140737488351232) (hz : ∀ s ∈ ss, s.size ≤ maxLen) (hn : (Lit.int .i64 xn).wf = true) (hm : (Lit.int .i64 xm).wf = true) (hG : HasG W) :
    Calls Try.prog 3 #[.int .i64 x, v, .int .i64 xn, .int .i64 xm] W fun e w' => e = .returned (.bool true) ∧ Below W.heap.size W w' := by
  have TM := Lib.hid fun W h => tame_any x v ss 12 W h hl hz (by omega)
  have HV := Lib.hid hv
  have AW := Lib.hid fun W h => awake_any W h
  have HG := Lib.hid hG
  have M1 := Lib.hid fun W => mod_any xn 19 W (by omega)
  have M2 := Lib.hid fun W => mod_any xm 18 W (by omega)
  clear hG hv hz hl hn hm hx
  go_enter Try.func3, Try.ntmps3
  go_wp2_with fail
  refine (TM.out _ HV.out).mono ?_
  rintro e w1 ⟨q, v1, rfl, hq, ⟨L, hs1, hset, hL12, _⟩, hb1⟩
  have HB1 := Lib.hid hb1
  have HS1 := Lib.hid hs1
  have HSET := Lib.hid hset
  clear hb1 hs1 hset
  go_wp2_with fail
  refine (M1.out _).mono ?_
  rintro e w2 ⟨⟨n, hn, rfl⟩, rfl⟩
  go_wp2_with fail
  refine (M2.out _).mono ?_
  rintro e w2 ⟨⟨m', hm', rfl⟩, rfl⟩
  obtain ⟨m, hmd⟩ : ∃ m, m = m' + 1 := ⟨_, rfl⟩
  have e1 : IntKind.i64.wrap (1 + (m' : Int)) = (m : Int) := by rw [show 1 + (m' : Int) = (m : Int) by omega]; exact wrapI (by omega)
  have e2 : 1 + (m' : Int) = (m : Int) := by omega
  have hm1 : 1 ≤ m ∧ m ≤ 18 := by omega
  obtain ⟨a, b, c, d, hF, ea, eb, ec, ed, hab, hqd, ha, hb, hd⟩ := prod_law (n := n) HSET.out (by omega) hm1
  have CN := Lib.hid fun k (hk : k ≤ 36) w h h2 => (Count_any q k v1 L w (tabL (pats L) q) rfl h HSET.out (by omega) h2).mono (R' := fun e w' => e = .returned (.tuple #[.int .i64 (cntT (tabL (pats L) q) k 0), .int .i64 0]) ∧ Below w.heap.size w w') fun e w' h => by
    obtain ⟨h1, h2⟩ := h
    rcases h1 with ⟨h3, _⟩ | ⟨_, h3⟩
    · rw [hF k hk] at h3; cases h3
    · exact ⟨h3, h2⟩
  have C1 := Lib.hid (CN.out n (by omega))
  have C2 := Lib.hid (CN.out m (by omega))
  have C3 := Lib.hid (CN.out (n + m) (by omega))
  have C4 := Lib.hid (CN.out (n + m - 1) (by omega))
  rw [ea] at C1
  rw [eb] at C2
  rw [ec] at C3
  rw [ed] at C4
  obtain ⟨p, hp⟩ : ∃ p, p = n + m := ⟨_, rfl⟩
  obtain ⟨r, hr⟩ : ∃ r, r = n + m - 1 := ⟨_, rfl⟩
  rw [← hp] at C3
  rw [← hr] at C4
  have e3 : (n : Int) + (m : Int) = (p : Int) := by omega
  have e4 : (p : Int) - 1 = (r : Int) := by omega
  have e3w := wrapN (D := p) (by omega)
  have e4w := wrapN (D := r) (by omega)
  have hM1 : a * b ≤ 387420489 * 387420489 := Nat.mul_le_mul ha hb
  have hM2 : q * d ≤ 3 * 150094635296999121 := Nat.mul_le_mul hq.2 hd
  have e5 : IntKind.i64.wrap ((a : Int) * (b : Int)) = (a : Int) * (b : Int) := wrapI (by rw [← Int.natCast_mul]; omega)
  have e6 : IntKind.i64.wrap ((q : Int) * (d : Int)) = (q : Int) * (d : Int) := wrapI (by rw [← Int.natCast_mul]; omega)
  have g1 : (0 : Int) ≤ (a : Int) := by omega
  have g2 : (0 : Int) ≤ (b : Int) := by omega
  have g3 : (0 : Int) ≤ (c : Int) := by omega
  have g4 : (a : Int) ≤ 2147483648 := by omega
  have g5 : (b : Int) ≤ 2147483648 := by omega
  have g6 : (c : Int) ≤ (a : Int) * (b : Int) := by rw [← Int.natCast_mul]; omega
  have g7 : (d : Int) ≤ 1152921504606846976 := by omega
  have g8 : (c : Int) ≤ (q : Int) * (d : Int) := by rw [← Int.natCast_mul]; omega
  clear ea eb ec ed hab hqd ha hb hd hM1 hM2 hF hmd hp hr
  go_wp2_with fail
  refine (C1.out _ HS1.out (HG.out.kept HB1.out)).mono ?_
  rintro e w3 ⟨rfl, hb3⟩
  have HB3 := Lib.hid (bl_then HB1.out hb3)
  have HS3 := Lib.hid (HS1.out.kept hb3)
  clear hb3
  go_wp2_with fail
  refine (C2.out _ HS3.out (HG.out.kept HB3.out)).mono ?_
  rintro e w4 ⟨rfl, hb4⟩
  have HB4 := Lib.hid (bl_then HB3.out hb4)
  have HS4 := Lib.hid (HS3.out.kept hb4)
  clear hb4
  go_wp2_with fail
  refine (C3.out _ HS4.out (HG.out.kept HB4.out)).mono ?_
  rintro e w5 ⟨rfl, hb5⟩
  have HB5 := Lib.hid (bl_then HB4.out hb5)
  have HS5 := Lib.hid (HS4.out.kept hb5)
  clear hb5
  go_wp2_with fail
  refine (C4.out _ HS5.out (HG.out.kept HB5.out)).mono ?_
  rintro e w6 ⟨rfl, hb6⟩
  have HB6 := Lib.hid (bl_then HB5.out hb6)
  clear hb6
  go_wp2_with fail
  refine (AW.out _ (HG.out.kept HB6.out)).mono ?_
  rintro e w7 ⟨rfl, hb7⟩
  have HB7 := Lib.hid (bl_then HB6.out hb7)
  clear hb7
  go_wp2_with fail
  go_ret
  exact ⟨rfl, HB7.out⟩
end Go.Proofs.Ytpclkocfbkjabab
