/-
  The law TreadGrows: the walk. (Printed by tools/genLGrows.py.)
-/
import Derived.Test.YtnamafakjkcmjaaT68
import Derived.Test.YtnamafakjkcmjaaT25
import Derived.Test.YtnamafakjkcmjaaMD
namespace Go.Proofs.Ytnamafakjkcmjaa
open Go.RowKit Go.Shelf
set_option linter.unusedVariables false
set_option linter.unusedSimpArgs false

set_option maxRecDepth 100000 in
set_option maxHeartbeats 4000000 in
theorem Growth_no (q : Int) (v : Value) (ss : List ByteArray) (w : World) (hv : StrsAt w v ss) (hset : setB q ss = false) :
    Calls Try.prog 11 #[.int .i64 q, v] w fun e w' => e = .returned (.tuple #[.int .i64 0, .int .i64 2]) ∧ Below w.heap.size w w' := by
  have IS := Lib.hid fun W h => isSet_any q v ss W h
  have HV := Lib.hid hv
  clear hv
  go_enter Try.func11, Try.ntmps11
  go_wp2_with fail
  refine (IS.out _ HV.out).mono ?_
  rintro e w1 ⟨rfl, r1⟩
  rw [hset]
  go_wp2_with fail
  go_ret2
  exact ⟨rfl, r1⟩
theorem Growth_is (q : Nat) (v : Value) (L : List ByteArray) (w : World) (hv : StrsAt w v L) (hset : setB q L = true) (hG : HasG w) :
    Calls Try.prog 11 #[.int .i64 q, v] w fun e w' => (∃ g, GrowIs (tabL (pats L) q) (stL (pats L) q).length g ∧ e = .returned (.tuple #[.int .i64 g, .int .i64 0])) ∧ Below w.heap.size w w' := by
  refine (Growth_any q _ v L w _ _ rfl rfl rfl hv hset hG).mono ?_
  rintro e w' ⟨⟨M, hM, h1⟩, h2⟩
  rcases h1 with ⟨h3, rfl⟩ | ⟨h3, rfl⟩
  · exact ⟨⟨_, ⟨M, hM, .inl ⟨h3, rfl⟩⟩, rfl⟩, h2⟩
  · exact ⟨⟨_, ⟨M, hM, .inr ⟨h3, rfl⟩⟩, rfl⟩, h2⟩
set_option maxRecDepth 100000 in
set_option maxHeartbeats 4000000 in
theorem TreadGrows_walk (n : Int) (v : Value) (ss : List ByteArray) (W : World) (hn : (Lit.int .i64 n).wf = true) (hv : StrsAt W v ss) (hl : ss.length * 16 ≤ 140737488351232) (hz : ∀ s ∈ ss, s.size ≤ maxLen) (hG : HasG W) :
    Calls Try.prog 3 #[.int .i64 n, v] W fun e w' => e = .returned (.bool true) ∧ Below W.heap.size W w' := by
  have PT := Lib.hid fun W h => patterns_any v ss W h hz
  have HV := Lib.hid hv
  obtain ⟨l, hl⟩ : ∃ l, l = patC ss := ⟨_, rfl⟩
  have h13 : l.length ≤ 13 := by rw [hl]; exact patC_len ss
  have h6 : ∀ s ∈ l, s.size ≤ 6 := by rw [hl]; exact patC_size ss
  rw [← hl] at PT
  have AW := Lib.hid fun W h => awake_any W h
  have HG := Lib.hid hG
  have SE := Lib.hid fun v W h => Set_any n v l W h (fun s hs => Nat.le_trans (h6 s hs) (by omega))
  clear hG hv hz hl hn
  cases hset : setB n l with
  | false =>
    have LO := Lib.hid fun v W h => Growth_no n v l W h hset
    rw [hset] at SE
    clear hset
    go_enter Try.func3, Try.ntmps3
    go_wp2_with fail
    refine (PT.out _ HV.out).mono ?_
    rintro e w1 ⟨v1, rfl, ho1, hb1⟩
    have HS1 := Lib.hid (strs_own ho1 (by omega))
    have HB1 := Lib.hid hb1
    clear ho1 hb1
    go_wp2_with fail
    refine (LO.out _ _ HS1.out).mono ?_
    rintro e w2 ⟨rfl, hb2⟩
    have HB2 := Lib.hid (bl_then HB1.out hb2)
    have HS2 := Lib.hid (HS1.out.kept hb2)
    clear hb2
    go_wp2_with fail
    refine (SE.out _ _ HS2.out).mono ?_
    rintro e w3 ⟨rfl, hb3⟩
    have HB3 := Lib.hid (bl_then HB2.out hb3)
    clear hb3
    go_wp2_with fail
    refine (AW.out _ (HG.out.kept HB3.out)).mono ?_
    rintro e w99 ⟨rfl, hb99⟩
    have HB99 := Lib.hid (bl_then HB3.out hb99)
    clear hb99
    go_wp2_with fail
    go_ret
    exact ⟨rfl, HB99.out⟩
  | true =>
    obtain ⟨q, rfl⟩ : ∃ q : Nat, n = q := ⟨n.toNat, by have := (setB_parts hset).1; omega⟩
    have hq : 1 ≤ q ∧ q ≤ 3 := by have := (setB_parts hset).1; omega
    have h0 := ok_nil (pats_some hset)
    have hN0 : 0 < (stL (pats l) q).length := by rw [stL_fix h0]; simp
    have SAME := Lib.hid fun (g g' : Int) h h' => grow_same (g := g) (g' := g') (tab_ok (q := q) h0) hN0 h h'
    have LO := Lib.hid fun v W h h2 => Growth_is q v l W h hset h2
    have RG := Lib.hid fun v W h => RGrowth_any q _ hq v l W _ _ rfl rfl rfl h (fun s hs => Nat.le_trans (h6 s hs) (by omega)) (by omega) h0
    rw [hset] at SE
    clear hset h0 hN0
    go_enter Try.func3, Try.ntmps3
    go_wp2_with fail
    refine (PT.out _ HV.out).mono ?_
    rintro e w1 ⟨v1, rfl, ho1, hb1⟩
    have HS1 := Lib.hid (strs_own ho1 (by omega))
    have HB1 := Lib.hid hb1
    clear ho1 hb1
    go_wp2_with fail
    refine (LO.out _ _ HS1.out (HG.out.kept HB1.out)).mono ?_
    rintro e w2 ⟨⟨g, hg, rfl⟩, hb2⟩
    have HB2 := Lib.hid (bl_then HB1.out hb2)
    have HS2 := Lib.hid (HS1.out.kept hb2)
    clear hb2
    have HGG := Lib.hid hg
    clear hg
    go_wp2_with fail
    refine (SE.out _ _ HS2.out).mono ?_
    rintro e w3 ⟨rfl, hb3⟩
    have HB3 := Lib.hid (bl_then HB2.out hb3)
    have HS3 := Lib.hid (HS2.out.kept hb3)
    clear hb3
    go_wp2_with fail
    refine (RG.out _ _ HS3.out).mono ?_
    rintro e w4 ⟨⟨g', hg', rfl⟩, hb4⟩
    have HB4 := Lib.hid (bl_then HB3.out hb4)
    clear hb4
    obtain rfl := SAME.out g g' HGG.out hg'
    clear hg'
    go_wp2_with fail
    refine (AW.out _ (HG.out.kept HB4.out)).mono ?_
    rintro e w99 ⟨rfl, hb99⟩
    have HB99 := Lib.hid (bl_then HB4.out hb99)
    clear hb99
    go_wp2_with fail
    go_ret
    exact ⟨rfl, HB99.out⟩
end Go.Proofs.Ytnamafakjkcmjaa
