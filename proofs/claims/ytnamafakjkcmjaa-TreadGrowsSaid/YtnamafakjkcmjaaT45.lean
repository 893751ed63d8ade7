/-
  Extend.
-/
import Derived.Test.YtnamafakjkcmjaaT43
import Derived.Test.YtnamafakjkcmjaaT22
import Derived.Test.YtnamafakjkcmjaaME
namespace Go.Proofs.Ytnamafakjkcmjaa
open Go.RowKit Go.Shelf
set_option linter.unusedVariables false
set_option linter.unusedSimpArgs false
attribute [local go_sem] Oper.semAt_some

theorem MachY.at {base top : Nat} {w : World} {g q : Nat} {S : List Str} {T : Tab} {gS cS gN cN : Nat} {hdrs : List Value} (h : MachY base top w g q S T gS cS gN cN hdrs) (ht : top ≤ w.heap.size) : MachAt w g q S T :=
  ⟨gS, cS, gN, cN, hdrs, h.whole, own_low h.sts (Nat.zero_le _), own_low h.nxt (Nat.zero_le _), h.rows.mono ht⟩
theorem machY_own {base top : Nat} {A D : World} {g q : Nat} {S : List Str} {T : Tab} {gS cS gN cN B : Nat} {hdrs : List Value} {row : Option Nat} (h : MachY base top A g q S T gS cS gN cN hdrs) (hg : A.grownBy D row) (hr : ∀ r, row = some r → B ≤ r ∧ ∃ o, A.heap[r]? = some o ∧ o.isCells = false) : MachY base top D g q S T gS cS gN cN hdrs :=
  h.grown hg fun r e => .inr (.inr fun cur t hx => by
    obtain ⟨_, o, ho, hc⟩ := hr r e
    rw [ho] at hx
    injection hx with hx
    rw [hx] at hc
    cases hc)
theorem row_own {A D : World} {base e n B : Nat} {v : Value} {xs : List Value} {row : Option Nat} (h : A.ownsRow base e 1 v n xs) (hg : A.grownBy D row) (hr : ∀ r, row = some r → B ≤ r ∧ ∃ o, A.heap[r]? = some o ∧ o.isCells = false) : D.ownsRow base e 1 v n xs := by
  refine h.kept hg ?_
  cases row with
  | none => cases h : v.ownBlock <;> simp
  | some r =>
    refine own_ne h fun cur hx => ?_
    obtain ⟨_, o, ho, hc⟩ := hr r rfl
    rw [ho] at hx
    injection hx with hx
    rw [hx] at hc
    cases hc
theorem far_any (B gl N cl i m : Nat) (T : Tab) (x : Int) (w : World) (hi : i < N) (hL : Lng T i x) (hB : B < w.heap.size) (hg : gl < w.heap.size) (hb : w.cell? ⟨B, 0, none⟩ = some (.slice (some ⟨gl, 0, none⟩) N cl)) (hc : w.cell? ⟨gl, i, none⟩ = some (.int .i64 x)) :
    Calls Try.prog 46 #[.int .i64 i, .int .i64 m, .pointer (some ⟨B, 0, none⟩)] w fun e w' => e = .returned (.bool (can T m i)) ∧ w = w' := by
  have hi' : (i : Int) < (N : Int) := by omega
  have e : can T m i = (decide (x < 0) || decide ((m : Int) ≤ x)) := by
    rw [Bool.eq_iff_iff, hL.can_iff]
    simp
  rw [e]
  clear hL e
  by_cases h0 : x < 0
  · go_enter Try.func46, Try.ntmps46
    go_wp2_with fail
    go_ret
    exact ⟨ret_bool (by simp [h0]), rfl⟩
  · go_enter Try.func46, Try.ntmps46
    go_wp2_with fail
    go_ret
    exact ⟨ret_bool (by simp; omega), rfl⟩
theorem to_at {T : Tab} {i c : Nat} (h3 : c < 3) (hc : c < (T.getD i []).length) : toT T i (ltr c) = (T.getD i []).getD c 0 := by
  unfold toT
  rw [ltr_nat h3, Nat.add_sub_cancel_left]
  generalize T.getD i [] = row at hc ⊢
  rw [List.getD_eq_getElem?_getD, List.getD_eq_getElem?_getD, List.getElem?_eq_getElem hc]
  rfl
theorem row_range {T : Tab} {N q i c : Nat} (hT : TabOk T N q) (hi : i < N) (hc : c < q) : (T.getD i []).getD c 0 = -1 ∨ (0 ≤ (T.getD i []).getD c 0 ∧ (T.getD i []).getD c 0 < N) := by
  obtain ⟨h1, h2⟩ := hT.at hi
  generalize T.getD i [] = row at h1 h2 ⊢
  have e : row.getD c 0 = row[c]'(by rw [h1]; exact hc) := by
    rw [List.getD_eq_getElem?_getD, List.getElem?_eq_getElem]
    rfl
  rw [e]
  exact h2 _ (List.getElem_mem _)
theorem run_take_none {T : Tab} {k : Nat} {s : Str} (h : runT T 0 (s.take k) = none) : runT T 0 s = none := by
  rw [← List.take_append_drop k s, run_append, h]
  rfl
theorem run_take_succ {T : Tab} {k i : Nat} {s : Str} (hk : k < s.length) (h : runT T 0 (s.take k) = some i) : runT T 0 (s.take (k + 1)) = if 0 ≤ toT T i s[k] then some (toT T i s[k]).toNat else none := by
  rw [List.take_succ_eq_append_getElem hk, run_append, h]
  exact run_one T i _
set_option maxRecDepth 100000 in
set_option maxHeartbeats 4000000 in
theorem Extend_no (q n : Int) (v : Value) (ss : List ByteArray) (wd : ByteArray) (w : World) (hv : StrsAt w v ss) (hset : setB q ss = false ∨ (n < 0 ∨ 60 < n) ∨ n < wd.size ∨ (setB q ss = true ∧ lettB q.toNat (sb wd) = false)) :
    Calls Try.prog 27 #[.int .i64 q, v, .string wd, .int .i64 n] w fun e w' => e = .returned (.tuple #[.string ⟨#[]⟩, .int .i64 2]) ∧ Below w.heap.size w w' := by
  have IS := Lib.hid fun W h => isSet_any q v ss W h
  have WI := Lib.hid fun W => within_any n 0 60 W
  obtain ⟨W0, hW0⟩ : ∃ W0, W0 = w.alloc (.cells #[.string wd] 9) := ⟨_, rfl⟩
  have hb0 : Below w.heap.size w W0 := by rw [hW0]; exact bl_alloc (bl_refl w) _
  have HV := Lib.hid (hv.kept hb0)
  have hx : Boxed W0 w.heap.size 9 (.string wd) := by rw [hW0]; exact Boxed.new w _ _
  have HX : Hid (∀ W', Below W0.heap.size W0 W' → W'.cell? ⟨w.heap.size, 0, none⟩ = some (.string wd)) := Lib.hid fun W' hb => (hb.cell (p := ⟨w.heap.size, 0, none⟩) hx.lt).trans hx.cell
  have hlt := hx.lt
  have HB0 := Lib.hid hb0
  have HW0 := Lib.hid hW0
  clear hv hx hb0 hW0
  cases hs : setB q ss with
  | false =>
    rw [hs] at IS
    clear hset hs
    go_enter Try.func27, Try.ntmps27
    go_wp2_with fail
    rw [← HW0.out]
    refine (IS.out _ HV.out).mono ?_
    rintro e w1 ⟨rfl, r1⟩
    have HB1 := Lib.hid (bl_then HB0.out r1)
    have c1 := HX.out _ r1
    clear r1
    go_wp2_with fail
    go_ret2
    exact ⟨rfl, HB1.out⟩
  | true =>
    rw [hs] at IS
    by_cases hn : n < 0 ∨ 60 < n
    · have hn2 : (decide (0 ≤ n) && decide (n ≤ 60)) = false := by simp; omega
      rw [hn2] at WI
      clear hset hs hn hn2
      go_enter Try.func27, Try.ntmps27
      go_wp2_with fail
      rw [← HW0.out]
      refine (IS.out _ HV.out).mono ?_
      rintro e w1 ⟨rfl, r1⟩
      have HB1 := Lib.hid (bl_then HB0.out r1)
      have c1 := HX.out _ r1
      clear r1
      go_wp2_with fail
      refine (WI.out _).mono ?_
      rintro e w2 ⟨rfl, rfl⟩
      go_wp2_with fail
      go_ret2
      exact ⟨rfl, HB1.out⟩
    · have hn2 : (decide (0 ≤ n) && decide (n ≤ 60)) = true := by simp; omega
      rw [hn2] at WI
      obtain ⟨m, rfl⟩ : ∃ m : Nat, n = m := ⟨n.toNat, by omega⟩
      have hq := (setB_parts hs).1
      obtain ⟨p, rfl⟩ : ∃ p : Nat, q = p := ⟨q.toNat, by omega⟩
      have IW := Lib.hid fun s W => isWord_any p (by omega) s W
      by_cases hl : (m : Int) < (wd.size : Int)
      · clear hset hs hn hn2 IW
        go_enter Try.func27, Try.ntmps27
        go_wp2_with fail
        rw [← HW0.out]
        refine (IS.out _ HV.out).mono ?_
        rintro e w1 ⟨rfl, r1⟩
        have HB1 := Lib.hid (bl_then HB0.out r1)
        have c1 := HX.out _ r1
        have lt1 := Nat.lt_of_lt_of_le hlt r1.size
        clear r1
        go_wp2_with fail
        refine (WI.out _).mono ?_
        rintro e w2 ⟨rfl, rfl⟩
        go_wp2_with fail
        go_ret2
        exact ⟨rfl, HB1.out⟩
      · have hlb : lettB p (sb wd) = false := by
          rcases hset with h | h | h | h
          · rw [hs] at h; cases h
          · omega
          · exact absurd h hl
          · exact h.2
        have IW1 : Hid (∀ W, Calls Try.prog 39 #[.int .i64 (p : Int), .string wd] W fun e w' => e = .returned (.bool false) ∧ Below W.heap.size W w') := fun W => by
          have := IW.out wd W
          rw [hlb] at this
          exact this
        clear hset hs hn hn2 IW hlb
        go_enter Try.func27, Try.ntmps27
        go_wp2_with fail
        rw [← HW0.out]
        refine (IS.out _ HV.out).mono ?_
        rintro e w1 ⟨rfl, r1⟩
        have HB1 := Lib.hid (bl_then HB0.out r1)
        have c1 := HX.out _ r1
        have lt1 := Nat.lt_of_lt_of_le hlt r1.size
        clear r1
        go_wp2_with fail
        refine (WI.out _).mono ?_
        rintro e w2 ⟨rfl, rfl⟩
        go_wp2_with fail
        refine (IW1.out _).mono ?_
        rintro e w3 ⟨rfl, r3⟩
        have HB3 := Lib.hid (bl_then HB1.out r3)
        clear r3
        go_wp2_with fail
        go_ret2
        exact ⟨rfl, HB3.out⟩
end Go.Proofs.Ytnamafakjkcmjaa
