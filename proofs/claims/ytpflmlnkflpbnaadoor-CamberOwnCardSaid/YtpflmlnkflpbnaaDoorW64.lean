/-
  The tree's visit: a closure that calls itself.
-/
import Derived.Test.YtpflmlnkflpbnaaDoorW60
import Derived.Test.YtpflmlnkflpbnaaDoorW62
import Derived.Test.YtpflmlnkflpbnaaDoorW8
namespace Go.Proofs.YtpflmlnkflpbnaaDoor
open Go.RowKit Go.Sort Go.Shelf Cam
set_option linter.unusedVariables false
attribute [local go_sem] Oper.semAt_some

def tripT (t : T3') : Value := .agg #[.int .i64 t.1, .int .i64 t.2.1, .int .i64 t.2.2]
theorem RowT.cellsAt {w : World} {g n cap : Nat} {ts : List T3} (h : RowT w (.slice (some ⟨g, 0, none⟩) n cap) ts) : g < w.heap.size ∧
    ∀ i (h : i < ts.length), w.cell? ⟨g, i * 3, none⟩ = some (.int .i64 ts[i].1) ∧ w.cell? ⟨g, i * 3 + 1, none⟩ = some (.int .i64 ts[i].2.1) ∧ w.cell? ⟨g, i * 3 + 2, none⟩ = some (.int .i64 ts[i].2.2) := by
  rcases h with ⟨h, _⟩ | ⟨g', cap', h, hg, hc⟩
  · cases h
  · simp only [Value.slice.injEq, Option.some.injEq, Addr.mk.injEq] at h
    obtain ⟨⟨rfl, _⟩, _⟩ := h
    exact ⟨hg, hc⟩
/-- The boxes of the visit: the bound, yield, and the visit itself. -/
structure Env (most : Int) (l Bm By Bv Bs : Nat) (W : World) : Prop where
  m : W.cell? ⟨Bm, 0, none⟩ = some (.int .i64 most)
  y : W.cell? ⟨By, 0, none⟩ = some (.func (.yield l) #[] #[])
  v : W.cell? ⟨Bv, 0, none⟩ = some (.func (.func 67) #[] #[.pointer (some ⟨Bm, 0, none⟩), .pointer (some ⟨By, 0, none⟩), .pointer (some ⟨Bv, 0, none⟩)])
  sm : Safe Bs W Bm
  sy : Safe Bs W By
  sv : Safe Bs W Bv
  ok : RowOk Bs W
  lt : Bs < W.heap.size
theorem Env.kept {most : Int} {l Bm By Bv Bs : Nat} {W W' : World} (h : Env most l Bm By Bv Bs W) (k : KpS Bs W W') : Env most l Bm By Bv Bs W' := by
  obtain ⟨a1, b1⟩ := k.2.2 _ h.sm
  obtain ⟨a2, b2⟩ := k.2.2 _ h.sy
  obtain ⟨a3, b3⟩ := k.2.2 _ h.sv
  exact ⟨(cell_of_heap a1 0).trans h.m, (cell_of_heap a2 0).trans h.y, (cell_of_heap a3 0).trans h.v, b1, b2, b3, k.2.1 h.ok, Nat.lt_of_lt_of_le h.lt k.1⟩

set_option maxRecDepth 100000 in
set_option maxHeartbeats 4000000 in
theorem visit_in (l Bm By Bv Bs N : Nat) (most : Int) (hm : 1 ≤ most ∧ most ≤ 1000000000) (J Jx : List T3' → World → Prop)
    (hJ : ∀ pre W W', J pre W → W.grownBy W' none → J pre W')
    (hY : ∀ m pre x W, J pre W → pre.length < N → YieldAt Fence.wide m Tryd.prog l #[tripT x] W fun e W' =>
      (e = .returned (.bool true) ∧ J (pre ++ [x]) W' ∧ KpS Bs W W') ∨ (e = .returned (.bool false) ∧ Jx (pre ++ [x]) W')) :
    ∀ (n m : Nat) (t : T3') (pre : List T3') (W : World), enough n t = true → t ∈ TT → Env most l Bm By Bv Bs W → J pre W → pre.length + (dfs most n t).length ≤ N →
      CallsIn Fence.wide m Tryd.prog 67 #[tripT t, .pointer (some ⟨Bm, 0, none⟩), .pointer (some ⟨By, 0, none⟩), .pointer (some ⟨Bv, 0, none⟩)] W fun e W' =>
        (e = .returned (.bool true) ∧ J (pre ++ dfs most n t) W' ∧ KpS Bs W W') ∨ (e = .returned (.bool false) ∧ ∃ q, Jx q W') := by
  intro n
  induction n with
  | zero => intro m t pre W he; cases he
  | succ n ih =>
    rintro m ⟨x, y, z⟩ pre W he ht hE hJ0 hN
    have hdd : ∀ k : Nat, (Fence.wide.depth.isSome = true → 1 ≤ k) := fun k h => by cases h
    obtain ⟨hT, h4⟩ := TT_tri ht
    simp only at hT h4
    have hbl := hE.lt
    have hm1 := hE.m
    have hm2 := hE.sm.lt
    have hy1 := hE.y
    have hy2 := hE.sy.lt
    have hv1 := hE.v
    have hv2 := hE.sv.lt
    have hk1 := KpS.alloc Bs W (.cells #[.int .i64 x, .int .i64 y, .int .i64 z] 42) hbl
    have hE1 := hE.kept hk1
    have hJ1 := hJ _ _ _ hJ0 (World.grownBy_alloc W (.cells #[.int .i64 x, .int .i64 y, .int .i64 z] 42) none)
    by_cases hgt : most < z
    · have hd0 : dfs most (n + 1) (x, y, z) = [] := by rw [dfs, if_pos hgt]
      rw [hd0]
      unfold tripT
      refine callsIn_of_wp Tryd.func67 rfl trivial ?_ rfl
      simp only [Tryd.ntmps67, List.size_toArray, List.length_cons, List.length_nil, Nat.reduceAdd, Nat.reduceSub, Array.replicate_succ, Array.replicate_zero, List.push_toArray, List.append_toArray, List.nil_append, List.cons_append]
      gi_wp2
      go_ret
      exact .inl ⟨rfl, by simpa using hJ1, hk1⟩
    · have hd0 : dfs most (n + 1) (x, y, z) = (x, y, z) :: (kidsT (x, y, z)).flatMap (dfs most n) := by rw [dfs, if_neg hgt]
      rw [hd0] at hN ⊢
      rw [List.length_cons] at hN
      have hS := Safe.new (Bs := Bs) (W := W) #[.int .i64 x, .int .i64 y, .int .i64 z] 42 hbl hE.ok
      obtain ⟨fn, tmps, assign, body, hy, hR⟩ := YieldAt.mono (hY (m - 1) pre (x, y, z) _ hJ1 (by omega)) (R' := fun e W2 =>
        (e = .returned (.bool true) ∧ J (pre ++ [(x, y, z)]) W2 ∧ KpS Bs (W.alloc (.cells #[.int .i64 x, .int .i64 y, .int .i64 z] 42)) W2 ∧ W2.cell? ⟨W.heap.size, 0, none⟩ = some (.int .i64 x) ∧ W2.cell? ⟨W.heap.size, 1, none⟩ = some (.int .i64 y) ∧ W2.cell? ⟨W.heap.size, 2, none⟩ = some (.int .i64 z) ∧ W.heap.size < W2.heap.size) ∨ (e = .returned (.bool false) ∧ ∃ q, Jx q W2)) (by
        rintro e W2 (⟨he, hj, hk⟩ | ⟨he, hj⟩)
        · obtain ⟨h1, h2⟩ := hk.2.2 _ hS
          have hw := Whole.new W 42 #[.int .i64 x, .int .i64 y, .int .i64 z]
          exact .inl ⟨he, hj, hk, (cell_of_heap h1 0).trans ((hw.cell 0).trans rfl), (cell_of_heap h1 1).trans ((hw.cell 1).trans rfl), (cell_of_heap h1 2).trans ((hw.cell 2).trans rfl), h2.lt⟩
        · exact .inr ⟨he, _, hj⟩)
      have C := Lib.hid fun (k : Nat) W' => (callsIn_wide (n := k)).2 (children_any x y z W' hT h4)
      unfold trip at C
      unfold tripT at hy ⊢
      dsimp only at hy
      have HH := Lib.hid (And.intro hN (And.intro hd0 ht))
      have HEN : Hid ((kidsT (x, y, z)).all (enough n) = true) := he
      clear hN hd0 ht he
      refine callsIn_of_wp Tryd.func67 rfl trivial ?_ rfl
      simp only [Tryd.ntmps67, List.size_toArray, List.length_cons, List.length_nil, Nat.reduceAdd, Nat.reduceSub, Array.replicate_succ, Array.replicate_zero, List.push_toArray, List.append_toArray, List.nil_append, List.cons_append]
      gi_wp2_with ((try refine ⟨hdd _, ?_⟩); refine hR.mono ?_; clear hR; rintro e W2 (⟨rfl, hJ2, hk2, q0, q1, q2, q3⟩ | ⟨rfl, hx2⟩))
      · refine ⟨trivial, hdd _, ?_⟩
        refine (C.out _ _).mono ?_
        rintro e W3 ⟨v, rfl, hown, hb3⟩
        have hE2 := hE1.kept hk2
        have hk3 := KpS.below (Bs := Bs) hb3 hE2.lt
        have hE3 := hE2.kept hk3
        have hJ3 := hJ _ _ _ hJ2 (⟨hb3.os, hb3.tape, hb3.output, hb3.size, fun k hk _ => hb3.block k hk⟩ : W2.grownBy W3 none)
        obtain ⟨L, hL⟩ : ∃ L, L = kids x y z := ⟨_, rfl⟩
        rw [← hL] at hown
        have HL : Hid (kidsT (x, y, z) = L) := hL.symm
        have hL2 : L.length ≤ 2 := by rw [hL]; unfold kids; split <;> split <;> simp
        obtain ⟨A, cap, rfl, hA⟩ : ∃ A cap, v = .slice A L.length cap ∧ (0 < L.length → ∃ g, A = some ⟨g, 0, none⟩ ∧ Safe Bs W3 g ∧ RowT W3 v L) := by
          have hrow := rowT_own hown
          rcases hown.2 with ⟨rfl, h0⟩ | ⟨g, cap, cur, rfl, hb, hg, _⟩
          · exact ⟨none, 0, by rw [h0], fun h => by omega⟩
          · exact ⟨_, cap, rfl, fun _ => ⟨g, rfl, Safe.fresh hb3 hE2.lt hE2.ok hb ⟨_, _, _, hg⟩, hrow⟩⟩
        have HA := Lib.hid hA
        clear hA hown hL C
        gi_wp2_with fail
        gi_loopw [19] (fun i wr => ∃ k : Nat, i = .int .i64 k ∧ k ≤ L.length ∧ Hid (J (pre ++ ((x, y, z) :: (L.take k).flatMap (dfs most n))) wr) ∧ Hid (KpS Bs W3 wr) ∧ Hid (Env most l Bm By Bv Bs wr)) (fun i _ => L.length - (intOf i).toNat)
        case atStart => exact ⟨0, rfl, Nat.zero_le _, by simpa [Hid] using hJ3, KpS.refl _ _, hE3⟩
        case round =>
          obtain ⟨k, rfl, hk, HJ, HK, HE⟩ := hrel
          by_cases hlt : k < L.length
          · obtain ⟨g, rfl, hg, hrow⟩ := HA.out (by omega)
            obtain ⟨hgk, hgs⟩ := HK.out.2.2 _ hg
            obtain ⟨d0, d1, d2⟩ := hrow.cellsAt.2 k hlt
            have c0 := (cell_of_heap hgk (k * 3)).trans d0
            have c1 := (cell_of_heap hgk (k * 3 + 1)).trans d1
            have c2 := (cell_of_heap hgk (k * 3 + 2)).trans d2
            have hgl := hgs.lt
            have hin : L[k] ∈ kidsT (x, y, z) := by rw [HL.out]; exact List.getElem_mem hlt
            have hTT := TT_kids HH.out.2.2 hin
            have hen : enough n L[k] = true := List.all_eq_true.1 HEN.out _ hin
            have hsplit : (L.take (k + 1)).flatMap (dfs most n) = (L.take k).flatMap (dfs most n) ++ dfs most n L[k] := by
              rw [List.take_succ_eq_append_getElem hlt, List.flatMap_append]; simp
            have hlen : (L.take (k + 1)).flatMap (dfs most n) ++ (L.drop (k + 1)).flatMap (dfs most n) = L.flatMap (dfs most n) := by
              rw [← List.flatMap_append, List.take_append_drop]
            have hN1 : pre.length + 1 + ((L.take k).flatMap (dfs most n)).length + (dfs most n L[k]).length ≤ N := by
              have h1 := HH.out.1
              rw [HL.out, ← hlen, hsplit] at h1
              simp only [List.length_append] at h1
              omega
            obtain ⟨⟨p, q, r⟩, hc⟩ : ∃ c, c = L[k] := ⟨_, rfl⟩
            rw [← hc] at c0 c1 c2 hTT hen hsplit hN1
            simp only at c0 c1 c2
            have hka := KpS.alloc Bs wr (.cells #[.int .i64 p, .int .i64 q, .int .i64 r] 42) HE.out.lt
            have I := Lib.hid fun mm => ih mm (p, q, r) (pre ++ ((x, y, z) :: (L.take k).flatMap (dfs most n))) (wr.alloc (.cells #[.int .i64 p, .int .i64 q, .int .i64 r] 42)) hen hTT (HE.out.kept hka) (hJ _ _ _ HJ.out (World.grownBy_alloc _ _ none)) (by simp only [List.length_append, List.length_cons]; omega)
            unfold tripT at I
            have HS : Hid (pre ++ ((x, y, z) :: (L.take k).flatMap (dfs most n)) ++ dfs most n (p, q, r) = pre ++ ((x, y, z) :: (L.take (k + 1)).flatMap (dfs most n))) := by
              show _ = _
              rw [hsplit]; simp
            have b1 := HE.out.m
            have b2 := HE.out.sm.lt
            have b3 := HE.out.y
            have b4 := HE.out.sy.lt
            have b5 := HE.out.v
            have b6 := HE.out.sv.lt
            clear hrow hsplit hlen hN1 hen hTT hin hc d0 d1 d2 hgs hgk
            gi_wp2_with fail
            refine ⟨trivial, hdd _, ?_⟩
            refine (I.out _).mono ?_
            rintro e W4 (⟨rfl, hJ4, hk4⟩ | ⟨rfl, hx4⟩)
            · gi_wp2_with fail
              go_roundw
              case rel => exact ⟨k + 1, by go_num, by omega, by rw [HS.out] at hJ4; exact hJ4, HK.out.trans (hka.trans hk4), (HE.out.kept hka).kept hk4⟩
              case measure => simp [intOf]; omega
            · gi_wp2_with fail
              go_ret
              exact .inr ⟨rfl, hx4⟩
          · have hkL : k = L.length := by omega
            have HJ' := HJ.out
            rw [List.take_of_length_le (by omega)] at HJ'
            have HF := Lib.hid HJ'
            clear HJ' hkL HJ
            gi_wp2_with fail
            go_ret
            exact .inl ⟨rfl, by rw [HL.out]; exact HF.out, hk1.trans (hk2.trans (hk3.trans HK.out))⟩
      · go_ret
        exact .inr ⟨rfl, hx2⟩
end Go.Proofs.YtpflmlnkflpbnaaDoor
