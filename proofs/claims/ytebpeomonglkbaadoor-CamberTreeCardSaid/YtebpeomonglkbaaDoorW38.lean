import Derived.Test.YtebpeomonglkbaaDoorW37
import Derived.Test.YtebpeomonglkbaaDoorW35
import Derived.Test.YtebpeomonglkbaaDoorW22
import Derived.Test.YtebpeomonglkbaaDoorLib6
namespace Go.Proofs.YtebpeomonglkbaaDoor
open Go.RowKit Go.Sort Cam
set_option linter.unusedVariables false
set_option linter.unusedSimpArgs false

/-- A child's path: the triple's, and a letter. -/
structure Longer (Y t : ByteArray) (c : UInt8) : Prop where
  size : Y.size = t.size + 1
  cut : Y.extract 0 t.size = t
  last : Y.data.toList = t.data.toList ++ [c]
theorem longer_of {t : ByteArray} {l : List UInt8} {c : UInt8} (h : l = t.data.toList ++ [c]) : Longer ⟨l.toArray⟩ t c := by
  have ht : t.data.toList.length = t.size := Array.length_toList
  refine ⟨?_, ?_, by simpa using h⟩
  · show l.toArray.size = _
    simp [h]
  · apply ByteArray.ext
    rw [ByteArray.data_extract]
    apply Array.toList_inj.1
    rw [Array.toList_extract]
    simp only [h, List.extract]
    rw [← ht]
    simp
theorem Longer.get {Y t : ByteArray} {c : UInt8} (h : Longer Y t c) (hlt : t.size < Y.size) : Y[t.size]'hlt = c := by
  have ht : t.data.toList.length = t.size := Array.length_toList
  show Y.data.toList[t.size]'(by have : Y.data.toList.length = Y.size := Array.length_toList; omega) = c
  simp only [h.last]
  rw [List.getElem_append_right (by omega)]
  simp [ht]
theorem kid_left {x y z : Int} {t : ByteArray} (h : Tri x y z) (h5 : 5 ≤ z) (hp : pathOf x y z = t.data.toList) : ∃ Y, pathV y z (3 * y * z - x) = .string Y ∧ Longer Y t 76 :=
  ⟨_, rfl, longer_of (by rw [path_left h h5, hp])⟩
theorem kid_right {x y z : Int} {t : ByteArray} (h : Tri x y z) (h5 : 5 ≤ z) (hp : pathOf x y z = t.data.toList) : ∃ Y, pathV x z (3 * x * z - y) = .string Y ∧ Longer Y t 82 :=
  ⟨_, rfl, longer_of (by rw [path_right h h5, hp])⟩
theorem Parent_left (x y z : Int) (w : World) (h : Tri x y z) (h5 : 5 ≤ z) (hr : 3 * y * z - x ≤ 1000000000) :
    Calls Tryd.prog 37 #[trip y z (3 * y * z - x)] w fun e w' => e = .returned (.tuple #[trip x y z, .int .i64 0]) ∧ Below w.heap.size w w' := by
  have l := h.left
  have k := Parent_yes _ _ _ w l hr (by have := l.2.2.1; omega)
  have e : 3 * y * z - (3 * y * z - x) = x := by omega
  have := h.2.1
  rw [e, show min y x = x by omega, show max y x = y by omega] at k
  exact k
theorem Parent_right (x y z : Int) (w : World) (h : Tri x y z) (h5 : 5 ≤ z) (hr : 3 * x * z - y ≤ 1000000000) :
    Calls Tryd.prog 37 #[trip x z (3 * x * z - y)] w fun e w' => e = .returned (.tuple #[trip x y z, .int .i64 0]) ∧ Below w.heap.size w w' := by
  have l := h.right
  have k := Parent_yes _ _ _ w l hr (by have := l.2.2.1; omega)
  have e : 3 * x * z - (3 * x * z - y) = y := by omega
  have := h.2.1
  rw [e, show min x y = x by omega, show max x y = y by omega] at k
  exact k
theorem kids_path {x y z : Int} (h : Tri x y z) (h5 : 5 ≤ z) :
    kids x y z = [] ∨ (kids x y z = [(x, z, 3 * x * z - y)] ∧ 3 * x * z - y ≤ 1000000000) ∨ (kids x y z = [(y, z, 3 * y * z - x), (x, z, 3 * x * z - y)] ∧ 3 * y * z - x ≤ 1000000000 ∧ 3 * x * z - y ≤ 1000000000) := by
  have hxy := Tri.ne_xy h (by omega)
  have hm : 3 * x * z - y ≤ 3 * y * z - x := by
    have := Int.mul_le_mul_of_nonneg_right (show x ≤ y by omega) (show 0 ≤ z by omega)
    have a : 3 * x * z = 3 * (x * z) := by grind
    have b : 3 * y * z = 3 * (y * z) := by grind
    omega
  unfold kids
  by_cases h1 : 3 * y * z - x ≤ 1000000000
  · exact .inr (.inr ⟨by rw [if_pos h1, if_pos ⟨by omega, by omega⟩]; rfl, h1, by omega⟩)
  · by_cases h2 : 3 * x * z - y ≤ 1000000000
    · exact .inr (.inl ⟨by rw [if_neg h1, if_pos ⟨by omega, h2⟩]; rfl, h2⟩)
    · exact .inl (by rw [if_neg h1, if_neg (fun h => h2 h.2)]; rfl)

theorem RowT.cells {w : World} {g n cap : Nat} {ts : List T3} (h : RowT w (.slice (some ⟨g, 0, none⟩) n cap) ts) : g < w.heap.size ∧
    ∀ i (h : i < ts.length), w.cell? ⟨g, i * 3, none⟩ = some (.int .i64 ts[i].1) ∧ w.cell? ⟨g, i * 3 + 1, none⟩ = some (.int .i64 ts[i].2.1) ∧ w.cell? ⟨g, i * 3 + 2, none⟩ = some (.int .i64 ts[i].2.2) := by
  rcases h with ⟨h, _⟩ | ⟨g', cap', h, hg, hc⟩
  · cases h
  · simp only [Value.slice.injEq, Option.some.injEq, Addr.mk.injEq] at h
    obtain ⟨⟨rfl, _⟩, _⟩ := h
    exact ⟨hg, hc⟩

set_option maxRecDepth 100000 in
set_option maxHeartbeats 8000000 in
theorem CamberTree_walk (s : ByteArray) (w : World) (hs : s.size ≤ 140737488351232) (hF : FirstAt w) :
    Calls Tryd.prog 18 #[.string s] w fun e w' => e = .returned (.bool true) ∧ Below w.heap.size w w' := by
  have AW := Lib.hid fun W h => awake_any W h
  have B := Lib.hid fun W => tame_any s W hs
  have M := Lib.hid fun t W h1 h2 => Follow_path t W h1 h2
  go_enter Tryd.func18, Tryd.ntmps18
  go_wp2_with fail
  refine (B.out _).mono ?_
  rintro e w1 ⟨t, x, y, z, rfl, ⟨hp, ho⟩, hb1⟩
  have hF1 := (hF.kept hb1).kept (bl_alloc (bl_refl _) (.cells #[.int .i64 x, .int .i64 y, .int .i64 z] 22))
  have hbA := bl_alloc hb1 (.cells #[.int .i64 x, .int .i64 y, .int .i64 z] 22)
  obtain ⟨h, h4, h5⟩ := followF_tri _ tri125 (by omega) ho
  have hts := path_size hp
  have M1 := Lib.hid fun W h => M.out t W hp h
  rw [ho] at M1
  simp only [errF, optV, vT, trip] at M1
  have P1 := Lib.hid fun W hF => Path_any x y z W h h4 (by omega) hF
  rw [pathV_of_follow hp ho] at P1
  have C1 := Lib.hid fun W => Children_any x y z W h h4
  have hpo := path_of_follow hp ho
  have HK := kids_path h h5
  have ne1 : ∀ W, (binOp .neq 22 (.agg #[.int .i64 x, .int .i64 y, .int .i64 z]) (.agg #[.int .i64 x, .int .i64 y, .int .i64 z])).run Tryd.prog W = .ok (.bool false) W := by
    intro W; rw [neA]; simp
  unfold trip at P1 C1 ⊢
  have HT := Lib.hid h
  have HPO := Lib.hid hpo
  clear hp ho h hpo B M
  go_wp2_with fail
  refine (M1.out _ hF1).mono ?_
  rintro e w2 ⟨rfl, hb2⟩
  obtain ⟨hc2, hf2⟩ := bl_cells hb2
  have hs2 : w1.heap.size < w2.heap.size := by have := hb2.size; simp at this; omega
  have hs2' : w1.heap.size < w2.heap.size + 1 := by omega
  have hF2 := (hF1.kept hb2).kept (bl_alloc (bl_refl _) (.cells #[.int .i64 x, .int .i64 y, .int .i64 z] 22))
  have hbB := bl_alloc (bl_then hbA hb2) (.cells #[.int .i64 x, .int .i64 y, .int .i64 z] 22)
  have W1 := ((Whole.new w1 22 #[.int .i64 x, .int .i64 y, .int .i64 z]).kept hb2).alloc (.cells #[.int .i64 x, .int .i64 y, .int .i64 z] 22)
  have W2 := Whole.new w2 22 #[.int .i64 x, .int .i64 y, .int .i64 z]
  go_wp2_with fail
  refine (P1.out _ hF2).mono ?_
  rintro e w3 ⟨rfl, hb3⟩
  have hF3 := hF2.kept hb3
  have hbC := bl_then hbB hb3
  have W1 := W1.kept hb3
  have W2 := W2.kept hb3
  have k0 : w3.cell? ⟨w1.heap.size, 0, none⟩ = some (.int .i64 x) := (W1.cell 0).trans rfl
  have k1 : w3.cell? ⟨w1.heap.size, 1, none⟩ = some (.int .i64 y) := (W1.cell 1).trans rfl
  have k2 : w3.cell? ⟨w1.heap.size, 2, none⟩ = some (.int .i64 z) := (W1.cell 2).trans rfl
  have hs3 := W1.lt
  clear hc2 hf2
  go_wp2_with fail
  refine (C1.out _).mono ?_
  rintro e w4 ⟨v, rfl, hv, hb4⟩
  have hF4 := hF3.kept hb4
  have hbD := bl_then hbC hb4
  have W1 := W1.kept hb4
  have W2 := W2.kept hb4
  clear k0 k1 k2 hs3
  have k0 : w4.cell? ⟨w1.heap.size, 0, none⟩ = some (.int .i64 x) := (W1.cell 0).trans rfl
  have k1 : w4.cell? ⟨w1.heap.size, 1, none⟩ = some (.int .i64 y) := (W1.cell 1).trans rfl
  have k2 : w4.cell? ⟨w1.heap.size, 2, none⟩ = some (.int .i64 z) := (W1.cell 2).trans rfl
  have j0 : w4.cell? ⟨w2.heap.size, 0, none⟩ = some (.int .i64 x) := (W2.cell 0).trans rfl
  have j1 : w4.cell? ⟨w2.heap.size, 1, none⟩ = some (.int .i64 y) := (W2.cell 1).trans rfl
  have j2 : w4.cell? ⟨w2.heap.size, 2, none⟩ = some (.int .i64 z) := (W2.cell 2).trans rfl
  have hs4 := W1.lt
  have hs4' := W2.lt
  rcases HK with HK | ⟨HK, hr⟩ | ⟨HK, hl, hr⟩
  · rw [HK] at hv
    obtain ⟨A, cap, rfl⟩ : ∃ A cap, v = .slice A 0 cap := by
      rcases hv with ⟨rfl, _⟩ | ⟨g, cap, rfl, _⟩
      · exact ⟨_, _, rfl⟩
      · exact ⟨_, _, rfl⟩
    clear hv HK
    go_wp2_with fail
    refine wp_loop_rounds 1 ?_; rw [rounds_succ]
    go_wp2_with fail
    refine (AW.out _ hF4).mono ?_
    rintro e w5 ⟨rfl, hb5⟩
    go_wp2_with fail
    go_ret
    exact ⟨rfl, bl_then hbD hb5⟩
  · rw [HK] at hv
    obtain ⟨g, cap, rfl⟩ : ∃ g cap, v = .slice (some ⟨g, 0, none⟩) 1 cap := by
      rcases hv with ⟨rfl, h0⟩ | ⟨g, cap, rfl, hg, hv⟩
      · cases h0
      · exact ⟨g, cap, rfl⟩
    have HV := Lib.hid hv
    have TR := Lib.hid fun W => refTriple_yes x z (3 * x * z - y) W (tri_triB HT.out.right hr)
    have QR := Lib.hid fun W => Parent_right x y z W HT.out h5 hr
    have YR := Lib.hid fun W hF => Path_any x z (3 * x * z - y) W HT.out.right hr (by have := HT.out.right.2.2.1; omega) hF
    obtain ⟨YR0, hYR, hLR⟩ := kid_right HT.out h5 HPO.out
    rw [hYR] at YR
    have eR1 := hLR.size
    have eR2 := hLR.cut
    have eR3 : t.size < YR0.size := by omega
    have eR4 : ((YR0[t.size]'eR3).toNat : Int) = 82 := by rw [hLR.get eR3]; rfl
    have eR5 : YR0.size ≤ 100 := by omega
    unfold trip at QR YR
    generalize 3 * x * z - y = r at *
    clear hYR hLR HT HPO HK hv P1 C1 M1
    have hF0 := hF4
    have hb0 := hbD
    go_wp2_with fail
    refine wp_loop_rounds 2 ?_; rw [rounds_succ]
    clear j0 j1 j2 W2
    obtain ⟨C0, hC0⟩ : ∃ C : World → Prop, ∀ X, C X ↔ (RowT X (.slice (some ⟨g, 0, none⟩) 1 cap) [(x, z, r)] ∧ Whole X w1.heap.size 22 #[.int .i64 x, .int .i64 y, .int .i64 z] ∧ FirstAt X ∧ Below w.heap.size w X) := ⟨_, fun _ => Iff.rfl⟩
    have HC0 := Lib.hid hC0
    have hC : C0 (w4).drew := (hC0 _).2 ⟨HV.out.kept (bl_drewN (bl_refl _) 1), W1.kept (bl_drewN (bl_refl _) 1), hF0.kept (bl_drewN (bl_refl _) 1), bl_drewN hb0 1⟩
    have c00 : ∀ s : Cls C0, s.w.cell? ⟨g, 0, none⟩ = some (.int .i64 x) := fun s => ((RowT.cells ((hC0 _).1 s.h).1).2 0 (by simp)).1
    have c01 : ∀ s : Cls C0, s.w.cell? ⟨g, 1, none⟩ = some (.int .i64 z) := fun s => ((RowT.cells ((hC0 _).1 s.h).1).2 0 (by simp)).2.1
    have c02 : ∀ s : Cls C0, s.w.cell? ⟨g, 2, none⟩ = some (.int .i64 r) := fun s => ((RowT.cells ((hC0 _).1 s.h).1).2 0 (by simp)).2.2
    have HKc : Hid (∀ (s : Cls C0) (w' : World), Below s.w.heap.size s.w w' → ∃ s' : Cls C0, w' = s'.w) := fun s w' hb => ⟨⟨w', (hC0 _).2 ⟨((hC0 _).1 s.h).1.kept hb, ((hC0 _).1 s.h).2.1.kept hb, ((hC0 _).1 s.h).2.2.1.kept hb, bl_then ((hC0 _).1 s.h).2.2.2 hb⟩⟩, rfl⟩
    clear hC0
    go_wp2_with fail
    haveI : Nonempty (Cls C0) := ⟨⟨_, hC⟩⟩
    refine wp_region_class C0 hC (by kernel_rfl) (by kernel_rfl) ?_
    repeat (go_big_quiet_step ((rename_i s; go_at_call 20; refine (TR.out _).mono ?_; rintro e w5 ⟨rfl, hb5⟩; exact ⟨rfl, HKc.out s w5 hb5⟩)))
    refine wpQuiet_nil ?_
    intro _ hw'
    obtain ⟨cs, hw''⟩ := hw'
    subst hw''
    obtain ⟨q1, q2, q3, q4⟩ := (HC0.out _).1 cs.h
    have HV := Lib.hid q1
    have W1 := q2
    have hF5 := q3
    have hb5 := q4
    clear q1 q2 q3 q4 HC0 hC HKc c00 c01 c02 k0 k1 k2
    obtain ⟨w5a, h5c⟩ := cs
    dsimp only at HV W1 hF5 hb5 ⊢
    clear h5c
    have c00 : w5a.cell? ⟨g, 0, none⟩ = some (.int .i64 x) := ((RowT.cells HV.out).2 0 (by simp)).1
    have c01 : w5a.cell? ⟨g, 1, none⟩ = some (.int .i64 z) := ((RowT.cells HV.out).2 0 (by simp)).2.1
    have c02 : w5a.cell? ⟨g, 2, none⟩ = some (.int .i64 r) := ((RowT.cells HV.out).2 0 (by simp)).2.2
    have k0 : w5a.cell? ⟨w1.heap.size, 0, none⟩ = some (.int .i64 x) := (W1.cell 0).trans rfl
    have k1 : w5a.cell? ⟨w1.heap.size, 1, none⟩ = some (.int .i64 y) := (W1.cell 1).trans rfl
    have k2 : w5a.cell? ⟨w1.heap.size, 2, none⟩ = some (.int .i64 z) := (W1.cell 2).trans rfl
    have hs5 := W1.lt
    have hg := (RowT.cells HV.out).1
    go_wp2_with fail
    refine (QR.out _).mono ?_
    rintro e w6a ⟨rfl, hb6a⟩
    have hF6 := (hF5.kept hb6a).kept (bl_alloc (bl_refl _) (.cells #[.int .i64 x, .int .i64 y, .int .i64 z] 22))
    have hb6 := bl_alloc (bl_then hb5 hb6a) (.cells #[.int .i64 x, .int .i64 y, .int .i64 z] 22)
    have W1 := W1.kept hb6a
    have HV := Lib.hid (HV.out.kept hb6a)
    clear c00 c01 c02 k0 k1 k2 hg hs5
    have c00 : w6a.cell? ⟨g, 0, none⟩ = some (.int .i64 x) := ((RowT.cells HV.out).2 0 (by simp)).1
    have c01 : w6a.cell? ⟨g, 1, none⟩ = some (.int .i64 z) := ((RowT.cells HV.out).2 0 (by simp)).2.1
    have c02 : w6a.cell? ⟨g, 2, none⟩ = some (.int .i64 r) := ((RowT.cells HV.out).2 0 (by simp)).2.2
    have k0 : w6a.cell? ⟨w1.heap.size, 0, none⟩ = some (.int .i64 x) := (W1.cell 0).trans rfl
    have k1 : w6a.cell? ⟨w1.heap.size, 1, none⟩ = some (.int .i64 y) := (W1.cell 1).trans rfl
    have k2 : w6a.cell? ⟨w1.heap.size, 2, none⟩ = some (.int .i64 z) := (W1.cell 2).trans rfl
    have hs6 := W1.lt
    have hg6 := (RowT.cells HV.out).1
    have hs6' : w1.heap.size < w6a.heap.size + 1 := by omega
    have hg6' : g < w6a.heap.size + 1 := by omega
    go_wp2_with fail
    refine (YR.out _ hF6).mono ?_
    rintro e w7a ⟨rfl, hb7a⟩
    have hF7 := hF6.kept hb7a
    have hb7 := bl_then hb6 hb7a
    have W3 := (Whole.new w6a 22 #[.int .i64 x, .int .i64 y, .int .i64 z]).kept hb7a
    have W1 := (W1.alloc _).kept hb7a
    have HV := Lib.hid ((HV.out.kept (bl_alloc (bl_refl _) (.cells #[.int .i64 x, .int .i64 y, .int .i64 z] 22))).kept hb7a)
    clear c00 c01 c02 k0 k1 k2 hs6 hg6 hs6' hg6'
    have k0 : w7a.cell? ⟨w1.heap.size, 0, none⟩ = some (.int .i64 x) := (W1.cell 0).trans rfl
    have k1 : w7a.cell? ⟨w1.heap.size, 1, none⟩ = some (.int .i64 y) := (W1.cell 1).trans rfl
    have k2 : w7a.cell? ⟨w1.heap.size, 2, none⟩ = some (.int .i64 z) := (W1.cell 2).trans rfl
    have m0 : w7a.cell? ⟨w6a.heap.size, 0, none⟩ = some (.int .i64 x) := (W3.cell 0).trans rfl
    have m1 : w7a.cell? ⟨w6a.heap.size, 1, none⟩ = some (.int .i64 y) := (W3.cell 1).trans rfl
    have m2 : w7a.cell? ⟨w6a.heap.size, 2, none⟩ = some (.int .i64 z) := (W3.cell 2).trans rfl
    go_wp2_with fail
    go_quiet (fail)
    clear k0 k1 k2 m0 m1 m2 W3
    have hF0 := hF7.kept (bl_drewN (bl_refl _) nq)
    have hb0 := bl_drewN hb7 nq
    have W1 := W1.kept (bl_drewN (bl_refl _) nq)
    have HV := Lib.hid (HV.out.kept (bl_drewN (bl_refl _) nq))
    go_wp2_with fail
    rw [rounds_succ]
    go_wp2_with fail
    refine (AW.out _ hF0).mono ?_
    rintro e w9 ⟨rfl, hb9⟩
    go_wp2_with fail
    go_ret
    exact ⟨rfl, bl_then hb0 hb9⟩
  · rw [HK] at hv
    obtain ⟨g, cap, rfl⟩ : ∃ g cap, v = .slice (some ⟨g, 0, none⟩) 2 cap := by
      rcases hv with ⟨rfl, h0⟩ | ⟨g, cap, rfl, hg, hv⟩
      · cases h0
      · exact ⟨g, cap, rfl⟩
    have HV := Lib.hid hv
    have hxy := Tri.ne_xy HT.out (by omega)
    have eqK : ∀ W, (binOp .eql 22 (.agg #[.int .i64 y, .int .i64 z, .int .i64 (3 * y * z - x)]) (.agg #[.int .i64 x, .int .i64 z, .int .i64 (3 * x * z - y)])).run Tryd.prog W = .ok (.bool false) W := by
      intro W; rw [eqA]; simp; omega
    have TL := Lib.hid fun W => refTriple_yes y z (3 * y * z - x) W (tri_triB HT.out.left hl)
    have QL := Lib.hid fun W => Parent_left x y z W HT.out h5 hl
    have YL := Lib.hid fun W hF => Path_any y z (3 * y * z - x) W HT.out.left hl (by have := HT.out.left.2.2.1; omega) hF
    obtain ⟨YL0, hYL, hLL⟩ := kid_left HT.out h5 HPO.out
    rw [hYL] at YL
    have eL1 := hLL.size
    have eL2 := hLL.cut
    have eL3 : t.size < YL0.size := by omega
    have eL4 : ((YL0[t.size]'eL3).toNat : Int) = 76 := by rw [hLL.get eL3]; rfl
    have eL5 : YL0.size ≤ 100 := by omega
    have TR := Lib.hid fun W => refTriple_yes x z (3 * x * z - y) W (tri_triB HT.out.right hr)
    have QR := Lib.hid fun W => Parent_right x y z W HT.out h5 hr
    have YR := Lib.hid fun W hF => Path_any x z (3 * x * z - y) W HT.out.right hr (by have := HT.out.right.2.2.1; omega) hF
    obtain ⟨YR0, hYR, hLR⟩ := kid_right HT.out h5 HPO.out
    rw [hYR] at YR
    have eR1 := hLR.size
    have eR2 := hLR.cut
    have eR3 : t.size < YR0.size := by omega
    have eR4 : ((YR0[t.size]'eR3).toNat : Int) = 82 := by rw [hLR.get eR3]; rfl
    have eR5 : YR0.size ≤ 100 := by omega
    unfold trip at QL YL QR YR
    generalize 3 * y * z - x = q at *
    generalize 3 * x * z - y = r at *
    clear hYL hLL hYR hLR HT HPO HK hv P1 C1 M1
    have hF0 := hF4
    have hb0 := hbD
    go_wp2_with fail
    refine wp_loop_rounds 3 ?_; rw [rounds_succ]
    clear j0 j1 j2 W2
    obtain ⟨C0, hC0⟩ : ∃ C : World → Prop, ∀ X, C X ↔ (RowT X (.slice (some ⟨g, 0, none⟩) 2 cap) [(y, z, q), (x, z, r)] ∧ Whole X w1.heap.size 22 #[.int .i64 x, .int .i64 y, .int .i64 z] ∧ FirstAt X ∧ Below w.heap.size w X) := ⟨_, fun _ => Iff.rfl⟩
    have HC0 := Lib.hid hC0
    have hC : C0 (w4).drew := (hC0 _).2 ⟨HV.out.kept (bl_drewN (bl_refl _) 1), W1.kept (bl_drewN (bl_refl _) 1), hF0.kept (bl_drewN (bl_refl _) 1), bl_drewN hb0 1⟩
    have c00 : ∀ s : Cls C0, s.w.cell? ⟨g, 0, none⟩ = some (.int .i64 y) := fun s => ((RowT.cells ((hC0 _).1 s.h).1).2 0 (by simp)).1
    have c01 : ∀ s : Cls C0, s.w.cell? ⟨g, 1, none⟩ = some (.int .i64 z) := fun s => ((RowT.cells ((hC0 _).1 s.h).1).2 0 (by simp)).2.1
    have c02 : ∀ s : Cls C0, s.w.cell? ⟨g, 2, none⟩ = some (.int .i64 q) := fun s => ((RowT.cells ((hC0 _).1 s.h).1).2 0 (by simp)).2.2
    have c10 : ∀ s : Cls C0, s.w.cell? ⟨g, 3, none⟩ = some (.int .i64 x) := fun s => ((RowT.cells ((hC0 _).1 s.h).1).2 1 (by simp)).1
    have c11 : ∀ s : Cls C0, s.w.cell? ⟨g, 4, none⟩ = some (.int .i64 z) := fun s => ((RowT.cells ((hC0 _).1 s.h).1).2 1 (by simp)).2.1
    have c12 : ∀ s : Cls C0, s.w.cell? ⟨g, 5, none⟩ = some (.int .i64 r) := fun s => ((RowT.cells ((hC0 _).1 s.h).1).2 1 (by simp)).2.2
    have HKc : Hid (∀ (s : Cls C0) (w' : World), Below s.w.heap.size s.w w' → ∃ s' : Cls C0, w' = s'.w) := fun s w' hb => ⟨⟨w', (hC0 _).2 ⟨((hC0 _).1 s.h).1.kept hb, ((hC0 _).1 s.h).2.1.kept hb, ((hC0 _).1 s.h).2.2.1.kept hb, bl_then ((hC0 _).1 s.h).2.2.2 hb⟩⟩, rfl⟩
    clear hC0
    go_wp2_with fail
    haveI : Nonempty (Cls C0) := ⟨⟨_, hC⟩⟩
    refine wp_region_class C0 hC (by kernel_rfl) (by kernel_rfl) ?_
    repeat (go_big_quiet_step ((rename_i s; go_at_call 20; refine (TL.out _).mono ?_; rintro e w5 ⟨rfl, hb5⟩; exact ⟨rfl, HKc.out s w5 hb5⟩)))
    refine wpQuiet_nil ?_
    intro _ hw'
    obtain ⟨cs, hw''⟩ := hw'
    subst hw''
    obtain ⟨q1, q2, q3, q4⟩ := (HC0.out _).1 cs.h
    have HV := Lib.hid q1
    have W1 := q2
    have hF5 := q3
    have hb5 := q4
    clear q1 q2 q3 q4 HC0 hC HKc c00 c01 c02 c10 c11 c12 k0 k1 k2
    obtain ⟨w5a, h5c⟩ := cs
    dsimp only at HV W1 hF5 hb5 ⊢
    clear h5c
    have c00 : w5a.cell? ⟨g, 0, none⟩ = some (.int .i64 y) := ((RowT.cells HV.out).2 0 (by simp)).1
    have c01 : w5a.cell? ⟨g, 1, none⟩ = some (.int .i64 z) := ((RowT.cells HV.out).2 0 (by simp)).2.1
    have c02 : w5a.cell? ⟨g, 2, none⟩ = some (.int .i64 q) := ((RowT.cells HV.out).2 0 (by simp)).2.2
    have c10 : w5a.cell? ⟨g, 3, none⟩ = some (.int .i64 x) := ((RowT.cells HV.out).2 1 (by simp)).1
    have c11 : w5a.cell? ⟨g, 4, none⟩ = some (.int .i64 z) := ((RowT.cells HV.out).2 1 (by simp)).2.1
    have c12 : w5a.cell? ⟨g, 5, none⟩ = some (.int .i64 r) := ((RowT.cells HV.out).2 1 (by simp)).2.2
    have k0 : w5a.cell? ⟨w1.heap.size, 0, none⟩ = some (.int .i64 x) := (W1.cell 0).trans rfl
    have k1 : w5a.cell? ⟨w1.heap.size, 1, none⟩ = some (.int .i64 y) := (W1.cell 1).trans rfl
    have k2 : w5a.cell? ⟨w1.heap.size, 2, none⟩ = some (.int .i64 z) := (W1.cell 2).trans rfl
    have hs5 := W1.lt
    have hg := (RowT.cells HV.out).1
    go_wp2_with fail
    refine (QL.out _).mono ?_
    rintro e w6a ⟨rfl, hb6a⟩
    have hF6 := (hF5.kept hb6a).kept (bl_alloc (bl_refl _) (.cells #[.int .i64 x, .int .i64 y, .int .i64 z] 22))
    have hb6 := bl_alloc (bl_then hb5 hb6a) (.cells #[.int .i64 x, .int .i64 y, .int .i64 z] 22)
    have W1 := W1.kept hb6a
    have HV := Lib.hid (HV.out.kept hb6a)
    clear c00 c01 c02 c10 c11 c12 k0 k1 k2 hg hs5
    have c00 : w6a.cell? ⟨g, 0, none⟩ = some (.int .i64 y) := ((RowT.cells HV.out).2 0 (by simp)).1
    have c01 : w6a.cell? ⟨g, 1, none⟩ = some (.int .i64 z) := ((RowT.cells HV.out).2 0 (by simp)).2.1
    have c02 : w6a.cell? ⟨g, 2, none⟩ = some (.int .i64 q) := ((RowT.cells HV.out).2 0 (by simp)).2.2
    have c10 : w6a.cell? ⟨g, 3, none⟩ = some (.int .i64 x) := ((RowT.cells HV.out).2 1 (by simp)).1
    have c11 : w6a.cell? ⟨g, 4, none⟩ = some (.int .i64 z) := ((RowT.cells HV.out).2 1 (by simp)).2.1
    have c12 : w6a.cell? ⟨g, 5, none⟩ = some (.int .i64 r) := ((RowT.cells HV.out).2 1 (by simp)).2.2
    have k0 : w6a.cell? ⟨w1.heap.size, 0, none⟩ = some (.int .i64 x) := (W1.cell 0).trans rfl
    have k1 : w6a.cell? ⟨w1.heap.size, 1, none⟩ = some (.int .i64 y) := (W1.cell 1).trans rfl
    have k2 : w6a.cell? ⟨w1.heap.size, 2, none⟩ = some (.int .i64 z) := (W1.cell 2).trans rfl
    have hs6 := W1.lt
    have hg6 := (RowT.cells HV.out).1
    have hs6' : w1.heap.size < w6a.heap.size + 1 := by omega
    have hg6' : g < w6a.heap.size + 1 := by omega
    go_wp2_with fail
    refine (YL.out _ hF6).mono ?_
    rintro e w7a ⟨rfl, hb7a⟩
    have hF7 := hF6.kept hb7a
    have hb7 := bl_then hb6 hb7a
    have W3 := (Whole.new w6a 22 #[.int .i64 x, .int .i64 y, .int .i64 z]).kept hb7a
    have W1 := (W1.alloc _).kept hb7a
    have HV := Lib.hid ((HV.out.kept (bl_alloc (bl_refl _) (.cells #[.int .i64 x, .int .i64 y, .int .i64 z] 22))).kept hb7a)
    clear c00 c01 c02 c10 c11 c12 k0 k1 k2 hs6 hg6 hs6' hg6'
    have k0 : w7a.cell? ⟨w1.heap.size, 0, none⟩ = some (.int .i64 x) := (W1.cell 0).trans rfl
    have k1 : w7a.cell? ⟨w1.heap.size, 1, none⟩ = some (.int .i64 y) := (W1.cell 1).trans rfl
    have k2 : w7a.cell? ⟨w1.heap.size, 2, none⟩ = some (.int .i64 z) := (W1.cell 2).trans rfl
    have m0 : w7a.cell? ⟨w6a.heap.size, 0, none⟩ = some (.int .i64 x) := (W3.cell 0).trans rfl
    have m1 : w7a.cell? ⟨w6a.heap.size, 1, none⟩ = some (.int .i64 y) := (W3.cell 1).trans rfl
    have m2 : w7a.cell? ⟨w6a.heap.size, 2, none⟩ = some (.int .i64 z) := (W3.cell 2).trans rfl
    go_wp2_with fail
    go_quiet (fail)
    clear k0 k1 k2 m0 m1 m2 W3
    have hF0 := hF7.kept (bl_drewN (bl_refl _) nq)
    have hb0 := bl_drewN hb7 nq
    have W1 := W1.kept (bl_drewN (bl_refl _) nq)
    have HV := Lib.hid (HV.out.kept (bl_drewN (bl_refl _) nq))
    go_wp2_with fail
    rw [rounds_succ]
    generalize w7a.drewN nq = w8a at *
    have k0 : w8a.cell? ⟨w1.heap.size, 0, none⟩ = some (.int .i64 x) := (W1.cell 0).trans rfl
    have k1 : w8a.cell? ⟨w1.heap.size, 1, none⟩ = some (.int .i64 y) := (W1.cell 1).trans rfl
    have k2 : w8a.cell? ⟨w1.heap.size, 2, none⟩ = some (.int .i64 z) := (W1.cell 2).trans rfl
    have hs8 := W1.lt
    obtain ⟨C0, hC0⟩ : ∃ C : World → Prop, ∀ X, C X ↔ (RowT X (.slice (some ⟨g, 0, none⟩) 2 cap) [(y, z, q), (x, z, r)] ∧ Whole X w1.heap.size 22 #[.int .i64 x, .int .i64 y, .int .i64 z] ∧ FirstAt X ∧ Below w.heap.size w X) := ⟨_, fun _ => Iff.rfl⟩
    have HC0 := Lib.hid hC0
    have hC : C0 (w8a).drew := (hC0 _).2 ⟨HV.out.kept (bl_drewN (bl_refl _) 1), W1.kept (bl_drewN (bl_refl _) 1), hF0.kept (bl_drewN (bl_refl _) 1), bl_drewN hb0 1⟩
    have c00 : ∀ s : Cls C0, s.w.cell? ⟨g, 0, none⟩ = some (.int .i64 y) := fun s => ((RowT.cells ((hC0 _).1 s.h).1).2 0 (by simp)).1
    have c01 : ∀ s : Cls C0, s.w.cell? ⟨g, 1, none⟩ = some (.int .i64 z) := fun s => ((RowT.cells ((hC0 _).1 s.h).1).2 0 (by simp)).2.1
    have c02 : ∀ s : Cls C0, s.w.cell? ⟨g, 2, none⟩ = some (.int .i64 q) := fun s => ((RowT.cells ((hC0 _).1 s.h).1).2 0 (by simp)).2.2
    have c10 : ∀ s : Cls C0, s.w.cell? ⟨g, 3, none⟩ = some (.int .i64 x) := fun s => ((RowT.cells ((hC0 _).1 s.h).1).2 1 (by simp)).1
    have c11 : ∀ s : Cls C0, s.w.cell? ⟨g, 4, none⟩ = some (.int .i64 z) := fun s => ((RowT.cells ((hC0 _).1 s.h).1).2 1 (by simp)).2.1
    have c12 : ∀ s : Cls C0, s.w.cell? ⟨g, 5, none⟩ = some (.int .i64 r) := fun s => ((RowT.cells ((hC0 _).1 s.h).1).2 1 (by simp)).2.2
    have HKc : Hid (∀ (s : Cls C0) (w' : World), Below s.w.heap.size s.w w' → ∃ s' : Cls C0, w' = s'.w) := fun s w' hb => ⟨⟨w', (hC0 _).2 ⟨((hC0 _).1 s.h).1.kept hb, ((hC0 _).1 s.h).2.1.kept hb, ((hC0 _).1 s.h).2.2.1.kept hb, bl_then ((hC0 _).1 s.h).2.2.2 hb⟩⟩, rfl⟩
    clear hC0
    go_wp2_with fail
    haveI : Nonempty (Cls C0) := ⟨⟨_, hC⟩⟩
    refine wp_region_class C0 hC (by kernel_rfl) (by kernel_rfl) ?_
    repeat (go_big_quiet_step ((rename_i s; go_at_call 20; refine (TR.out _).mono ?_; rintro e w5 ⟨rfl, hb5⟩; exact ⟨rfl, HKc.out s w5 hb5⟩)))
    refine wpQuiet_nil ?_
    intro _ hw'
    obtain ⟨cs, hw''⟩ := hw'
    subst hw''
    obtain ⟨q1, q2, q3, q4⟩ := (HC0.out _).1 cs.h
    have HV := Lib.hid q1
    have W1 := q2
    have hF5 := q3
    have hb5 := q4
    clear q1 q2 q3 q4 HC0 hC HKc c00 c01 c02 c10 c11 c12 k0 k1 k2 hs8
    obtain ⟨w5b, h5c⟩ := cs
    dsimp only at HV W1 hF5 hb5 ⊢
    clear h5c
    have c00 : w5b.cell? ⟨g, 0, none⟩ = some (.int .i64 y) := ((RowT.cells HV.out).2 0 (by simp)).1
    have c01 : w5b.cell? ⟨g, 1, none⟩ = some (.int .i64 z) := ((RowT.cells HV.out).2 0 (by simp)).2.1
    have c02 : w5b.cell? ⟨g, 2, none⟩ = some (.int .i64 q) := ((RowT.cells HV.out).2 0 (by simp)).2.2
    have c10 : w5b.cell? ⟨g, 3, none⟩ = some (.int .i64 x) := ((RowT.cells HV.out).2 1 (by simp)).1
    have c11 : w5b.cell? ⟨g, 4, none⟩ = some (.int .i64 z) := ((RowT.cells HV.out).2 1 (by simp)).2.1
    have c12 : w5b.cell? ⟨g, 5, none⟩ = some (.int .i64 r) := ((RowT.cells HV.out).2 1 (by simp)).2.2
    have k0 : w5b.cell? ⟨w1.heap.size, 0, none⟩ = some (.int .i64 x) := (W1.cell 0).trans rfl
    have k1 : w5b.cell? ⟨w1.heap.size, 1, none⟩ = some (.int .i64 y) := (W1.cell 1).trans rfl
    have k2 : w5b.cell? ⟨w1.heap.size, 2, none⟩ = some (.int .i64 z) := (W1.cell 2).trans rfl
    have hs5 := W1.lt
    have hg := (RowT.cells HV.out).1
    go_wp2_with fail
    refine (QR.out _).mono ?_
    rintro e w6b ⟨rfl, hb6b⟩
    have hF6 := (hF5.kept hb6b).kept (bl_alloc (bl_refl _) (.cells #[.int .i64 x, .int .i64 y, .int .i64 z] 22))
    have hb6 := bl_alloc (bl_then hb5 hb6b) (.cells #[.int .i64 x, .int .i64 y, .int .i64 z] 22)
    have W1 := W1.kept hb6b
    have HV := Lib.hid (HV.out.kept hb6b)
    clear c00 c01 c02 c10 c11 c12 k0 k1 k2 hg hs5
    have c00 : w6b.cell? ⟨g, 0, none⟩ = some (.int .i64 y) := ((RowT.cells HV.out).2 0 (by simp)).1
    have c01 : w6b.cell? ⟨g, 1, none⟩ = some (.int .i64 z) := ((RowT.cells HV.out).2 0 (by simp)).2.1
    have c02 : w6b.cell? ⟨g, 2, none⟩ = some (.int .i64 q) := ((RowT.cells HV.out).2 0 (by simp)).2.2
    have c10 : w6b.cell? ⟨g, 3, none⟩ = some (.int .i64 x) := ((RowT.cells HV.out).2 1 (by simp)).1
    have c11 : w6b.cell? ⟨g, 4, none⟩ = some (.int .i64 z) := ((RowT.cells HV.out).2 1 (by simp)).2.1
    have c12 : w6b.cell? ⟨g, 5, none⟩ = some (.int .i64 r) := ((RowT.cells HV.out).2 1 (by simp)).2.2
    have k0 : w6b.cell? ⟨w1.heap.size, 0, none⟩ = some (.int .i64 x) := (W1.cell 0).trans rfl
    have k1 : w6b.cell? ⟨w1.heap.size, 1, none⟩ = some (.int .i64 y) := (W1.cell 1).trans rfl
    have k2 : w6b.cell? ⟨w1.heap.size, 2, none⟩ = some (.int .i64 z) := (W1.cell 2).trans rfl
    have hs6 := W1.lt
    have hg6 := (RowT.cells HV.out).1
    have hs6' : w1.heap.size < w6b.heap.size + 1 := by omega
    have hg6' : g < w6b.heap.size + 1 := by omega
    go_wp2_with fail
    refine (YR.out _ hF6).mono ?_
    rintro e w7b ⟨rfl, hb7b⟩
    have hF7 := hF6.kept hb7b
    have hb7 := bl_then hb6 hb7b
    have W3 := (Whole.new w6b 22 #[.int .i64 x, .int .i64 y, .int .i64 z]).kept hb7b
    have W1 := (W1.alloc _).kept hb7b
    have HV := Lib.hid ((HV.out.kept (bl_alloc (bl_refl _) (.cells #[.int .i64 x, .int .i64 y, .int .i64 z] 22))).kept hb7b)
    clear c00 c01 c02 c10 c11 c12 k0 k1 k2 hs6 hg6 hs6' hg6'
    have k0 : w7b.cell? ⟨w1.heap.size, 0, none⟩ = some (.int .i64 x) := (W1.cell 0).trans rfl
    have k1 : w7b.cell? ⟨w1.heap.size, 1, none⟩ = some (.int .i64 y) := (W1.cell 1).trans rfl
    have k2 : w7b.cell? ⟨w1.heap.size, 2, none⟩ = some (.int .i64 z) := (W1.cell 2).trans rfl
    have m0 : w7b.cell? ⟨w6b.heap.size, 0, none⟩ = some (.int .i64 x) := (W3.cell 0).trans rfl
    have m1 : w7b.cell? ⟨w6b.heap.size, 1, none⟩ = some (.int .i64 y) := (W3.cell 1).trans rfl
    have m2 : w7b.cell? ⟨w6b.heap.size, 2, none⟩ = some (.int .i64 z) := (W3.cell 2).trans rfl
    go_wp2_with fail
    go_quiet (fail)
    clear k0 k1 k2 m0 m1 m2 W3
    have hF0 := hF7.kept (bl_drewN (bl_refl _) nq)
    have hb0 := bl_drewN hb7 nq
    have W1 := W1.kept (bl_drewN (bl_refl _) nq)
    have HV := Lib.hid (HV.out.kept (bl_drewN (bl_refl _) nq))
    go_wp2_with fail
    rw [rounds_succ]
    go_wp2_with fail
    refine (AW.out _ hF0).mono ?_
    rintro e w9 ⟨rfl, hb9⟩
    go_wp2_with fail
    go_ret
    exact ⟨rfl, bl_then hb0 hb9⟩
end Go.Proofs.YtebpeomonglkbaaDoor
