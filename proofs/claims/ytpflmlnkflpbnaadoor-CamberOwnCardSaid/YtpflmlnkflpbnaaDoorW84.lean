/-
  CamberThree: Other is empty for k other than 1 and 3; for 3 it is All, and for 1 it is All of a third, with all numbers times 3.
-/
import Derived.Test.YtpflmlnkflpbnaaDoorW83
import Derived.Test.YtpflmlnkflpbnaaDoorLib7
namespace Go.Proofs.YtpflmlnkflpbnaaDoor
open Go.RowKit Go.Sort Cam
set_option linter.unusedVariables false
set_option linter.unusedSimpArgs false

def scaleT (t : Int) (u : T3') : T3' := (t * u.1, t * u.2.1, t * u.2.2)
theorem other_scale (k most t : Int) (h : (k = 1 ∧ t = 3) ∨ (k = 3 ∧ t = 1)) : otherL k most = (upTo (most / t)).map (scaleT t) := by
  rcases h with ⟨rfl, rfl⟩ | ⟨rfl, rfl⟩
  · unfold otherL
    rw [if_neg (by omega), if_pos rfl]
    rfl
  · unfold otherL
    rw [if_pos rfl, Int.ediv_one]
    have : scaleT 1 = id := by funext ⟨a, b, c⟩; simp [scaleT]
    rw [this, List.map_id]
theorem upTo_none {m : Int} (h : m ≤ 0) : upTo m = [] := by
  cases hu : upTo m with
  | nil => rfl
  | cons a l =>
    have h1 := mem_upTo.1 (hu ▸ List.mem_cons_self .. : a ∈ upTo m)
    obtain ⟨x, y, z⟩ := a
    have h2 := (TT_tri h1.1).1
    have := h2.1
    have := h2.2.1
    have := h2.2.2.1
    have := h1.2
    simp only at *
    omega
theorem other_none (k most : Int) (hm : 1 ≤ most) (h : (k ≠ 1 ∧ k ≠ 3) ∨ (k = 1 ∧ most < 3)) : otherL k most = [] := by
  rcases h with ⟨h1, h2⟩ | ⟨rfl, h2⟩
  · unfold otherL
    rw [if_neg h2, if_neg h1]
  · rw [other_scale 1 most 3 (.inl ⟨rfl, rfl⟩), upTo_none (by omega)]
    rfl
theorem wrapI {a : Int} (h : -9223372036854775808 ≤ a ∧ a ≤ 9223372036854775807) : IntKind.i64.wrap a = a := by
  rw [IntKind.wrap_i64]; omega
theorem own_slice {w : World} {base : Nat} {e : TypeId} {size : Nat} {v : Value} {n : Nat} {xs : List Value} (h : w.ownsRow base e size v n xs) : ∃ A c, v = .slice A n c := by
  rcases own_forms h with ⟨rfl, rfl⟩ | ⟨g, c, rfl⟩
  · exact ⟨none, 0, rfl⟩
  · exact ⟨_, c, rfl⟩

set_option maxRecDepth 100000 in
set_option maxHeartbeats 4000000 in
theorem CamberThree_walk (k0 most0 : Int) (w : World) (hwk : (Lit.int .i64 k0).wf = true) (hwm : (Lit.int .i64 most0).wf = true) (hF : FirstAt w) :
    Calls Tryd.prog 4 #[.int .i64 k0, .int .i64 most0] w fun e w' => e = .returned (.bool true) ∧ Below w.heap.size w w' := by
  have M1 := Lib.hid fun W => mod_any k0 5 W hwk (by omega)
  have M2 := Lib.hid fun W => mod_any most0 1000 W hwm (by omega)
  have AW := Lib.hid fun W h => awake_any W h
  have OA := Lib.hid fun k most W h1 h2 => Other_any k most W h1 h2
  have AL := Lib.hid fun m W h => All_any m W h
  clear hwk hwm
  go_enter Tryd.func4, Tryd.ntmps4
  go_wp2_with fail
  refine (M1.out _).mono ?_
  rintro e w1 ⟨⟨r1, hr1, hr2, rfl⟩, rfl⟩
  go_wp2_with fail
  refine (M2.out _).mono ?_
  rintro e w1 ⟨⟨r2, hr3, hr4, rfl⟩, rfl⟩
  have OA1 := Lib.hid fun W => OA.out (1 + r1) (1 + r2) W (by omega) (by omega)
  go_wp2_with fail
  refine (OA1.out _).mono ?_
  rintro e w1 ⟨v, rfl, hown, hb1⟩
  have hF1 := hF.kept hb1
  have hlen := otherL_few (1 + r1) (1 + r2)
  by_cases hz : ((1 + r1 ≠ 1 ∧ 1 + r1 ≠ 3) ∨ (1 + r1 = 1 ∧ 1 + r2 < 3))
  · rw [other_none (1 + r1) (1 + r2) (by omega) hz] at hown
    obtain ⟨A, c, rfl⟩ := own_slice hown
    clear hown hlen
    have hr : (r1 = 1 ∨ r1 = 3 ∨ r1 = 4) ∨ (r1 = 0 ∧ r2 < 2) := by omega
    clear hz
    rcases hr with (rfl | rfl | rfl) | ⟨rfl, h3⟩
    all_goals
      go_wp2_with fail
      refine (AW.out _ hF1).mono ?_
      rintro e w2 ⟨rfl, hb2⟩
      go_wp2_with fail
      go_ret
      exact ⟨rfl, bl_then hb1 hb2⟩
  · obtain ⟨t, ht, hr⟩ : ∃ t : Int, ((1 + r1 = 1 ∧ t = 3) ∨ (1 + r1 = 3 ∧ t = 1)) ∧ ((r1 = 0 ∧ 2 ≤ r2 ∧ t = 3) ∨ (r1 = 2 ∧ t = 1)) := by
      by_cases h0 : r1 = 0
      · exact ⟨3, by omega, by omega⟩
      · exact ⟨1, by omega, by omega⟩
    have hsc := other_scale (1 + r1) (1 + r2) t ht
    obtain ⟨L, hL⟩ : ∃ L, L = otherL (1 + r1) (1 + r2) := ⟨_, rfl⟩
    rw [← hL] at hown hlen hsc
    obtain ⟨A, c, rfl⟩ := own_slice hown
    obtain ⟨N, hN⟩ : ∃ N, N = L.length := ⟨_, rfl⟩
    rw [← hN] at hown hlen ⊢
    have HO := Lib.hid hown
    obtain ⟨U, hU⟩ : ∃ U, U = upTo ((1 + r2) / t) := ⟨_, rfl⟩
    rw [← hU] at hsc
    have hUN : U.length = N := by rw [hN, hsc, List.length_map]
    have hUB : ∀ u ∈ U, (0 ≤ u.1 ∧ u.1 ≤ 1000) ∧ (0 ≤ u.2.1 ∧ u.2.1 ≤ 1000) ∧ (0 ≤ u.2.2 ∧ u.2.2 ≤ 1000) := by
      intro u hu
      rw [hU] at hu
      obtain ⟨x, y, z⟩ := u
      obtain ⟨h1, h2⟩ := mem_upTo.1 hu
      have h5 := (TT_tri h1).1
      have h6 : (1 + r2) / t ≤ 1000 := by
        rcases hr with ⟨_, _, rfl⟩ | ⟨_, rfl⟩ <;> omega
      obtain ⟨h7, h8, h9, _⟩ := h5
      simp only at *
      omega
    have HU := Lib.hid hU
    have HUN := Lib.hid hUN
    have HUB := Lib.hid hUB
    have HSC := Lib.hid hsc
    have HN := Lib.hid hN
    clear hz ht hL hown hsc hN hU hUN hUB
    rcases hr with ⟨rfl, h3, rfl⟩ | ⟨rfl, rfl⟩
    all_goals
      go_wp2_with fail
      refine (AL.out _ _ (by omega)).mono ?_
      rintro e w2 ⟨v2, rfl, hown2, hb2⟩
      first
        | rw [← HU.out, HUN.out] at hown2
        | rw [show upTo (1 + r2) = U from by rw [HU.out, Int.ediv_one], HUN.out] at hown2
      obtain ⟨A2, c2, rfl⟩ := own_slice hown2
      have HO2 := Lib.hid hown2
      have HO1 := Lib.hid (own_kept HO.out hb2)
      have hF2 := hF1.kept hb2
      have hbB := bl_then hb1 hb2
      clear hown2 HO
      go_wp2_with fail
      go_loopw [10] (fun i wr => ∃ k : Nat, k ≤ N ∧ i = .int .i64 k ∧ Hid (wr.ownsRow w.heap.size 32 3 (.slice A N c) N (flat L)) ∧ Hid (wr.ownsRow w1.heap.size 32 3 (.slice A2 N c2) N (flat U)) ∧ Hid (FirstAt wr) ∧ Below w.heap.size w wr) (fun i _ => N - (intOf i).toNat)
      case atStart => exact ⟨0, Nat.zero_le _, rfl, HO1, HO2, hF2, hbB⟩
      case round =>
        clear HO1 HO2 hF2 hbB hb1 hb2 hF1
        obtain ⟨k, hk, rfl, HO1, HO2, HF, hb⟩ := hrel
        by_cases hlt : k < N
        · have hk1 : k < L.length := by have := HN.out; omega
          have hk2 : k < U.length := by have := HUN.out; omega
          obtain ⟨g, cc, e1, _, _⟩ := own_form HO1.out (by omega)
          obtain ⟨g2, cc2, e2, _, _⟩ := own_form HO2.out (by omega)
          simp only [Value.slice.injEq, true_and] at e1 e2
          obtain ⟨rfl, rfl⟩ := e1
          obtain ⟨rfl, rfl⟩ := e2
          obtain ⟨x0, x1, x2⟩ := flat_get L k hk1
          obtain ⟨y0, y1, y2⟩ := flat_get U k hk2
          obtain ⟨⟨u0, u0'⟩, ⟨u1, u1'⟩, ⟨u2, u2'⟩⟩ := HUB.out U[k] (List.getElem_mem hk2)
          have eL := List.getElem_of_eq HSC.out hk1
          rw [List.getElem_map] at eL
          rw [eL] at x0 x1 x2
          clear eL
          obtain ⟨⟨a, b, d⟩, hu⟩ : ∃ u, u = U[k] := ⟨_, rfl⟩
          rw [← hu] at x0 x1 x2 y0 y1 y2 u0 u0' u1 u1' u2 u2'
          clear hu
          unfold scaleT at x0 x1 x2
          simp only at x0 x1 x2 y0 y1 y2 u0 u0' u1 u1' u2 u2'
          have HX := Lib.hid (And.intro x0 (And.intro x1 x2))
          have HY := Lib.hid (And.intro y0 (And.intro y1 y2))
          clear x0 x1 x2 y0 y1 y2 hk1 hk2
          go_wp2_with fail
          go_loopw [11] (fun j wr => ∃ m : Nat, m ≤ 3 ∧ j = .int .i64 m ∧ Hid (wr.ownsRow w.heap.size 32 3 (.slice (some ⟨g, 0, none⟩) N c) N (flat L)) ∧ Hid (wr.ownsRow w1.heap.size 32 3 (.slice (some ⟨g2, 0, none⟩) N c2) N (flat U)) ∧ Hid (FirstAt wr) ∧ Below w.heap.size w wr) (fun j _ => 3 - (intOf j).toNat)
          case atStart => exact ⟨0, Nat.zero_le _, rfl, HO1, HO2, HF, hb⟩
          case round =>
            clear HO1 HO2 HF hb
            obtain ⟨m, hm, rfl, HO1, HO2, HF, hb⟩ := hrel
            have s0 := (HO1.out.cellAt (k * 3) (by omega)).trans HX.out.1
            have s1 := (HO1.out.cellAt (k * 3 + 1) (by omega)).trans HX.out.2.1
            have s2 := (HO1.out.cellAt (k * 3 + 2) (by omega)).trans HX.out.2.2
            have q0 := (HO2.out.cellAt (k * 3) (by omega)).trans HY.out.1
            have q1 := (HO2.out.cellAt (k * 3 + 1) (by omega)).trans HY.out.2.1
            have q2 := (HO2.out.cellAt (k * 3 + 2) (by omega)).trans HY.out.2.2
            have wp0 := wrapI (a := 3 * a) (by omega)
            have wp1 := wrapI (a := 3 * b) (by omega)
            have wp2 := wrapI (a := 3 * d) (by omega)
            have vp0 := wrapI (a := a) (by omega)
            have vp1 := wrapI (a := b) (by omega)
            have vp2 := wrapI (a := d) (by omega)
            have hm2 : (m = 0 ∨ m = 1 ∨ m = 2) ∨ m = 3 := by omega
            rcases hm2 with (rfl | rfl | rfl) | rfl
            · go_wp2_with fail
              go_quiet (fail)
              have HB := bl_drewN hb nq
              have HF2 := Lib.hid (HF.out.kept (bl_drewN (bl_refl _) nq))
              have P1 := Lib.hid (own_kept HO1.out (bl_drewN (bl_refl _) nq))
              have P2 := Lib.hid (own_kept HO2.out (bl_drewN (bl_refl _) nq))
              clear s0 s1 s2 q0 q1 q2 HO1 HO2 HF hb wp0 wp1 wp2 vp0 vp1 vp2
              go_wp2_with fail
              go_roundw
              case rel => exact ⟨1, by omega, rfl, P1, P2, HF2, HB⟩
              case measure => simp [intOf]
            · go_wp2_with fail
              go_quiet (fail)
              have HB := bl_drewN hb nq
              have HF2 := Lib.hid (HF.out.kept (bl_drewN (bl_refl _) nq))
              have P1 := Lib.hid (own_kept HO1.out (bl_drewN (bl_refl _) nq))
              have P2 := Lib.hid (own_kept HO2.out (bl_drewN (bl_refl _) nq))
              clear s0 s1 s2 q0 q1 q2 HO1 HO2 HF hb wp0 wp1 wp2 vp0 vp1 vp2
              go_wp2_with fail
              go_roundw
              case rel => exact ⟨2, by omega, rfl, P1, P2, HF2, HB⟩
              case measure => simp [intOf]
            · go_wp2_with fail
              go_quiet (fail)
              have HB := bl_drewN hb nq
              have HF2 := Lib.hid (HF.out.kept (bl_drewN (bl_refl _) nq))
              have P1 := Lib.hid (own_kept HO1.out (bl_drewN (bl_refl _) nq))
              have P2 := Lib.hid (own_kept HO2.out (bl_drewN (bl_refl _) nq))
              clear s0 s1 s2 q0 q1 q2 HO1 HO2 HF hb wp0 wp1 wp2 vp0 vp1 vp2
              go_wp2_with fail
              go_roundw
              case rel => exact ⟨3, by omega, rfl, P1, P2, HF2, HB⟩
              case measure => simp [intOf]
            · clear wp0 wp1 wp2 vp0 vp1 vp2 s0 s1 s2 q0 q1 q2
              go_wp2_with fail
              go_roundw
              case rel => exact ⟨k + 1, by omega, by go_num, HO1, HO2, HF, hb⟩
              case measure => simp [intOf]; omega
        · go_wp2_with fail
          refine (AW.out _ HF.out).mono ?_
          rintro e w4 ⟨rfl, hb4⟩
          go_wp2_with fail
          go_ret
          exact ⟨rfl, bl_then hb hb4⟩
end Go.Proofs.YtpflmlnkflpbnaaDoor
