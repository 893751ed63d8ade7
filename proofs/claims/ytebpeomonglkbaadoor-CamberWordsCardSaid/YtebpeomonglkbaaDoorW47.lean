/-
  The reference's numbers of letters, word, and fraction.
-/
import Derived.Test.YtebpeomonglkbaaDoorW40
import Derived.Test.YtebpeomonglkbaaDoorW32
namespace Go.Proofs.YtebpeomonglkbaaDoor
open Go.RowKit Go.Sort Cam
set_option linter.unusedVariables false
set_option linter.unusedSimpArgs false

theorem arr60' : (Tryd.prog.info? 60).map (·.size) = some 2 := by kernel_rfl
set_option maxRecDepth 100000 in
theorem refReduced_any (p q : Int) (w : World) (hp : 1 ≤ p ∧ p ≤ 4611686018427387904) (hq : 1 ≤ q ∧ q ≤ 4611686018427387904) (hg : Int.gcd p q = 1) :
    Calls Tryd.prog 45 #[.int .i64 p, .int .i64 q] w fun e w' => e = .returned (.agg #[.int .i64 p, .int .i64 q]) ∧ Below w.heap.size w w' := by
  have G := Lib.hid fun W => Gcd_any p q W (by omega) (by omega)
  rw [hg] at G
  clear hg
  have t1 : Int.tdiv p 1 = p := Int.tdiv_one p
  have t2 : Int.tdiv q 1 = q := Int.tdiv_one q
  go_enter Tryd.func45, Tryd.ntmps45
  go_wp2_with fail
  refine (G.out _).mono ?_
  rintro e w1 ⟨rfl, rfl⟩
  go_wp2_with fail
  go_region
  all_goals
    go_wp2_with fail
    exact bodyPost_ret (res_cell (g := w.heap.size) Tryd.results45 rfl (((Whole.new w 60 #[.int .i64 p, .int .i64 q]).drewN 1).load Tryd.underlying60 rfl arr60')) rfl ⟨rfl, bl_drewN (bl_alloc (bl_refl _) _) 1⟩

set_option maxRecDepth 100000 in
set_option maxHeartbeats 2000000 in
theorem refCounts_any (s : ByteArray) (w : World) (hs : s.size ≤ 61) :
    Calls Tryd.prog 43 #[.string s] w fun e w' => e = .returned (.tuple #[.int .i64 (cntP s.data.toList).1, .int .i64 (cntP s.data.toList).2]) ∧ Below w.heap.size w w' := by
  obtain ⟨V, hV⟩ : ∃ V, V = grR addP sumP s.data.toList (1, 0) (0, 1) := ⟨_, rfl⟩
  have hc : cntP s.data.toList = addP V.1 V.2 := by
    rw [hV, grR_eq sum_add _ _ _ (by decide) (by decide)]; rfl
  rw [hc]
  have HV := Lib.hid hV
  clear hV hc
  go_enter Tryd.func43, Tryd.ntmps43
  go_wp2_with fail
  go_loopw [6] (fun i wr => ∃ (k : Nat) (a b c d : Nat), k ≤ s.size ∧ i = .int .i64 k ∧ Whole wr w.heap.size 92 #[.int .i64 a, .int .i64 b] ∧ Whole wr (w.heap.size + 1) 92 #[.int .i64 c, .int .i64 d] ∧ Hid (a + b + c + d ≤ 2 * 2 ^ k) ∧
    Hid (1 ≤ a + b ∧ 1 ≤ c + d) ∧ Hid (V = grR addP sumP (s.data.toList.drop k) (a, b) (c, d)) ∧ Below w.heap.size w wr) (fun i _ => s.size - (intOf i).toNat)
  case atStart => exact ⟨0, 1, 0, 0, 1, Nat.zero_le _, rfl, (Whole.new w _ _).alloc _, Whole.new2 w _ _ _, by show _ ≤ _; decide, ⟨by omega, by omega⟩, HV, bl_alloc (bl_alloc (bl_refl _) _) _⟩
  case round =>
    obtain ⟨k, a, b, c, d, hk, rfl, hA, hB, hsum, hpos, HG, hb⟩ := hrel
    have k0 : wr.cell? ⟨w.heap.size, 0, none⟩ = some (.int .i64 a) := (hA.cell 0).trans rfl
    have k1 : wr.cell? ⟨w.heap.size, 1, none⟩ = some (.int .i64 b) := (hA.cell 1).trans rfl
    have k2 : wr.cell? ⟨w.heap.size + 1, 0, none⟩ = some (.int .i64 c) := (hB.cell 0).trans rfl
    have k3 : wr.cell? ⟨w.heap.size + 1, 1, none⟩ = some (.int .i64 d) := (hB.cell 1).trans rfl
    have f0 := hA.frozen 0
    have f1 := hA.frozen 1
    have f2 := hB.frozen 0
    have f3 := hB.frozen 1
    have hsz := hB.lt
    have hsz0 := hA.lt
    have hbd : a + b + c + d ≤ 4611686018427387904 := by
      have h1 : (2 : Nat) ^ k ≤ 2 ^ 61 := Nat.pow_le_pow_right (by omega) (by omega)
      have h2 : (2 : Nat) ^ 61 = 2305843009213693952 := by decide
      have := hsum.out
      omega
    by_cases hlt : k < s.size
    · have hkl : k < s.data.toList.length := by rw [show s.data.toList.length = s.size from Array.length_toList]; exact hlt
      have HD : Hid (s.data.toList.drop k = s[k] :: s.data.toList.drop (k + 1)) := List.drop_eq_getElem_cons hkl
      obtain ⟨p, hp⟩ : ∃ p : Nat, p = a + c := ⟨_, rfl⟩
      obtain ⟨q, hq⟩ : ∃ q : Nat, q = b + d := ⟨_, rfl⟩
      have ep : (a : Int) + c = p := by omega
      have eq : (b : Int) + d = q := by omega
      have HS : Hid (p + q = a + b + c + d) := by show _ = _; omega
      have HA : Hid (addP (a, b) (c, d) = (p, q)) := by rw [hp, hq]; rfl
      have HP : Hid ((2 : Nat) * 2 ^ (k + 1) = 2 * (2 * 2 ^ k)) := by show _ = _; rw [Nat.pow_succ]; omega
      by_cases hsh : a + b ≤ c + d
      · have hsh1 : decide ((a : Int) + b ≤ (c : Int) + d) = true := by simp; omega
        by_cases hc : s[k] = 76
        · have hc1 : ((s[k].toNat : Int) == 76) = true := by rw [hc]; rfl
          have HG2 : Hid (V = grR addP sumP (s.data.toList.drop (k + 1)) (p, q) (c, d)) := by
            show _ = _
            rw [HG.out, HD.out, grR, HA.out]
            simp [sumP, hc, hsh]
          clear HG HD hc hp hq
          go_wp2_with fail
          go_roundw
          case rel => exact ⟨k + 1, p, q, c, d, by omega, by go_num, ((hA.set 0 _).set 1 _).alloc _, ((hB.far (by simp) _).far (by simp) _).alloc _, by have := HS.out; have := HP.out; have := hsum.out; show _ ≤ _; omega, ⟨by have := HS.out; have := hpos.out; omega, hpos.out.2⟩, HG2, bl_alloc (bl_set (bl_set hb (by simp) _) (by simp) _) _⟩
          case measure => simp [intOf]; omega
        · have hc1 : ((s[k].toNat : Int) == 76) = false := by
            rw [beq_eq_false_iff_ne]; intro e; exact hc (UInt8.toNat_inj.1 (by have : (76 : UInt8).toNat = 76 := rfl; omega))
          have HG2 : Hid (V = grR addP sumP (s.data.toList.drop (k + 1)) (a, b) (p, q)) := by
            show _ = _
            rw [HG.out, HD.out, grR, HA.out]
            simp [sumP, hc, hsh]
          clear HG HD hc hp hq
          go_wp2_with fail
          go_roundw
          case rel => exact ⟨k + 1, a, b, p, q, by omega, by go_num, ((hA.far (by simp) _).far (by simp) _).alloc _, ((hB.set 0 _).set 1 _).alloc _, by have := HS.out; have := HP.out; have := hsum.out; show _ ≤ _; omega, ⟨hpos.out.1, by have := HS.out; have := hpos.out; omega⟩, HG2, bl_alloc (bl_set (bl_set hb (by simp) _) (by simp) _) _⟩
          case measure => simp [intOf]; omega
      · have hsh1 : decide ((a : Int) + b ≤ (c : Int) + d) = false := by simp; omega
        by_cases hc : s[k] = 76
        · have hc1 : ((s[k].toNat : Int) == 76) = true := by rw [hc]; rfl
          have HG2 : Hid (V = grR addP sumP (s.data.toList.drop (k + 1)) (a, b) (p, q)) := by
            show _ = _
            rw [HG.out, HD.out, grR, HA.out]
            simp [sumP, hc, hsh]
          clear HG HD hc hp hq
          go_wp2_with fail
          go_roundw
          case rel => exact ⟨k + 1, a, b, p, q, by omega, by go_num, ((hA.far (by simp) _).far (by simp) _).alloc _, ((hB.set 0 _).set 1 _).alloc _, by have := HS.out; have := HP.out; have := hsum.out; show _ ≤ _; omega, ⟨hpos.out.1, by have := HS.out; have := hpos.out; omega⟩, HG2, bl_alloc (bl_set (bl_set hb (by simp) _) (by simp) _) _⟩
          case measure => simp [intOf]; omega
        · have hc1 : ((s[k].toNat : Int) == 76) = false := by
            rw [beq_eq_false_iff_ne]; intro e; exact hc (UInt8.toNat_inj.1 (by have : (76 : UInt8).toNat = 76 := rfl; omega))
          have HG2 : Hid (V = grR addP sumP (s.data.toList.drop (k + 1)) (p, q) (c, d)) := by
            show _ = _
            rw [HG.out, HD.out, grR, HA.out]
            simp [sumP, hc, hsh]
          clear HG HD hc hp hq
          go_wp2_with fail
          go_roundw
          case rel => exact ⟨k + 1, p, q, c, d, by omega, by go_num, ((hA.set 0 _).set 1 _).alloc _, ((hB.far (by simp) _).far (by simp) _).alloc _, by have := HS.out; have := HP.out; have := hsum.out; show _ ≤ _; omega, ⟨by have := HS.out; have := hpos.out; omega, hpos.out.2⟩, HG2, bl_alloc (bl_set (bl_set hb (by simp) _) (by simp) _) _⟩
          case measure => simp [intOf]; omega
    · have HE : Hid (V = ((a, b), (c, d))) := by
        show _ = _
        rw [HG.out, List.drop_of_length_le (by rw [show s.data.toList.length = s.size from Array.length_toList]; omega)]; rfl
      clear HG
      go_wp2_with fail
      go_region
      all_goals
        go_wp2_with fail
        go_ret2
        exact ⟨by rw [HE.out]; simp [addP], bl_drewN hb 1⟩

theorem grR_more {α : Type} {j : α → α → α} {m : α → Nat} (hm : ∀ u v, m (j u v) = m u + m v) (l : List UInt8) (u v : α) (h1 : 1 ≤ m u) (h2 : 1 ≤ m v) : m u ≤ m (grR j m l u v).1 ∧ m v ≤ m (grR j m l u v).2 := by
  rw [grR_eq hm l u v h1 h2]; exact grG_more hm l _ u v

set_option maxRecDepth 100000 in
set_option maxHeartbeats 2000000 in
theorem refWord_any (s : ByteArray) (w : World) (hs : s.size ≤ 61) (h40 : sumP (cntP s.data.toList) ≤ 40) :
    Calls Tryd.prog 44 #[.string s] w fun e w' => e = .returned (.string (wordFull s.data.toList)) ∧ w' = w := by
  obtain ⟨V, hV⟩ : ∃ V, V = grR catB ByteArray.size s.data.toList (⟨#[97]⟩ : ByteArray) ⟨#[98]⟩ := ⟨_, rfl⟩
  have hc : wordFull s.data.toList = catB V.1 V.2 := by
    rw [hV, grR_eq catB_size _ _ _ (by decide) (by decide)]; rfl
  have h4 : V.1.size + V.2.size ≤ 40 := by
    rw [← catB_size, ← hc, wordFull_size]; exact h40
  rw [hc]
  have HV := Lib.hid hV
  clear hV hc h40
  go_enter Tryd.func44, Tryd.ntmps44
  go_wp2_with fail
  go_loop [3, 4, 5] (fun x y i => ∃ (k : Nat) (u v : ByteArray), k ≤ s.size ∧ i = .int .i64 k ∧ x = .string u ∧ y = .string v ∧ Hid (1 ≤ u.size ∧ 1 ≤ v.size) ∧ u.size + v.size ≤ 40 ∧
    Hid (V = grR catB ByteArray.size (s.data.toList.drop k) u v)) (fun _ _ i => s.size - (intOf i).toNat)
  case atStart => exact ⟨0, ⟨#[97]⟩, ⟨#[98]⟩, Nat.zero_le _, rfl, rfl, rfl, ⟨by decide, by decide⟩, by decide, HV⟩
  case round =>
    obtain ⟨k, u, v, hk, rfl, rfl, rfl, hpos, hu, HG⟩ := hrel
    by_cases hlt : k < s.size
    · have hkl : k < s.data.toList.length := by rw [show s.data.toList.length = s.size from Array.length_toList]; exact hlt
      have HD : Hid (s.data.toList.drop k = s[k] :: s.data.toList.drop (k + 1)) := List.drop_eq_getElem_cons hkl
      have hcat : catB u v = u ++ v := rfl
      have hcs := catB_size u v
      have key1 : V = grR catB ByteArray.size (s.data.toList.drop (k + 1)) (u ++ v) v → (u ++ v).size + v.size ≤ 40 := by
        intro e
        have := grR_more catB_size (s.data.toList.drop (k + 1)) (u ++ v) v (by have := hpos.out; rw [← hcat]; omega) hpos.out.2
        rw [← e] at this
        omega
      have key2 : V = grR catB ByteArray.size (s.data.toList.drop (k + 1)) u (u ++ v) → u.size + (u ++ v).size ≤ 40 := by
        intro e
        have := grR_more catB_size (s.data.toList.drop (k + 1)) u (u ++ v) hpos.out.1 (by have := hpos.out; rw [← hcat]; omega)
        rw [← e] at this
        omega
      have hpos1 : Hid (1 ≤ (u ++ v).size ∧ 1 ≤ v.size) := ⟨by have := hpos.out; rw [← hcat]; omega, hpos.out.2⟩
      have hpos2 : Hid (1 ≤ u.size ∧ 1 ≤ (u ++ v).size) := ⟨hpos.out.1, by have := hpos.out; rw [← hcat]; omega⟩
      by_cases hsh : u.size ≤ v.size
      · have hsh1 : decide ((u.size : Int) ≤ (v.size : Int)) = true := by simp; omega
        by_cases hc : s[k] = 76
        · have hc1 : ((s[k].toNat : Int) == 76) = true := by rw [hc]; rfl
          have HG2 : Hid (V = grR catB ByteArray.size (s.data.toList.drop (k + 1)) (u ++ v) v) := by
            show _ = _
            rw [HG.out, HD.out, grR, hcat]
            simp [hc, hsh]
          have hk1 := key1 HG2.out
          clear HG HD hc key1 key2 hcat hcs
          go_wp2
          go_round
          case rel => exact ⟨k + 1, u ++ v, v, by omega, by go_num, rfl, rfl, hpos1, hk1, HG2⟩
          case measure => simp [intOf]; omega
        · have hc1 : ((s[k].toNat : Int) == 76) = false := by
            rw [beq_eq_false_iff_ne]; intro e; exact hc (UInt8.toNat_inj.1 (by have : (76 : UInt8).toNat = 76 := rfl; omega))
          have HG2 : Hid (V = grR catB ByteArray.size (s.data.toList.drop (k + 1)) u (u ++ v)) := by
            show _ = _
            rw [HG.out, HD.out, grR, hcat]
            simp [hc, hsh]
          have hk1 := key2 HG2.out
          clear HG HD hc key1 key2 hcat hcs
          go_wp2
          go_round
          case rel => exact ⟨k + 1, u, u ++ v, by omega, by go_num, rfl, rfl, hpos2, hk1, HG2⟩
          case measure => simp [intOf]; omega
      · have hsh1 : decide ((u.size : Int) ≤ (v.size : Int)) = false := by simp; omega
        by_cases hc : s[k] = 76
        · have hc1 : ((s[k].toNat : Int) == 76) = true := by rw [hc]; rfl
          have HG2 : Hid (V = grR catB ByteArray.size (s.data.toList.drop (k + 1)) u (u ++ v)) := by
            show _ = _
            rw [HG.out, HD.out, grR, hcat]
            simp [hc, hsh]
          have hk1 := key2 HG2.out
          clear HG HD hc key1 key2 hcat hcs
          go_wp2
          go_round
          case rel => exact ⟨k + 1, u, u ++ v, by omega, by go_num, rfl, rfl, hpos2, hk1, HG2⟩
          case measure => simp [intOf]; omega
        · have hc1 : ((s[k].toNat : Int) == 76) = false := by
            rw [beq_eq_false_iff_ne]; intro e; exact hc (UInt8.toNat_inj.1 (by have : (76 : UInt8).toNat = 76 := rfl; omega))
          have HG2 : Hid (V = grR catB ByteArray.size (s.data.toList.drop (k + 1)) (u ++ v) v) := by
            show _ = _
            rw [HG.out, HD.out, grR, hcat]
            simp [hc, hsh]
          have hk1 := key1 HG2.out
          clear HG HD hc key1 key2 hcat hcs
          go_wp2
          go_round
          case rel => exact ⟨k + 1, u ++ v, v, by omega, by go_num, rfl, rfl, hpos1, hk1, HG2⟩
          case measure => simp [intOf]; omega
    · have HE : Hid (V = (u, v)) := by
        show _ = _
        rw [HG.out, List.drop_of_length_le (by rw [show s.data.toList.length = s.size from Array.length_toList]; omega)]; rfl
      clear HG
      go_wp2
      go_ret
      exact ⟨by rw [HE.out]; rfl, rfl⟩
end Go.Proofs.YtebpeomonglkbaaDoor
