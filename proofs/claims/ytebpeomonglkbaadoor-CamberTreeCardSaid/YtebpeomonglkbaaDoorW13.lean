import Derived.Test.YtebpeomonglkbaaDoorW9
import Derived.Test.YtebpeomonglkbaaDoorW6
namespace Go.Proofs.YtebpeomonglkbaaDoor
open Go.RowKit Go.Sort Cam
set_option linter.unusedVariables false

/-- ref.Exchange at a solution. -/
theorem refEx2 (x y z : Int) (w : World) (h : Tri x y z) (h4 : z ≤ 1000000000) (h2 : 2 ≤ z) :
    Calls Tryd.prog 36 #[trip x y z, .int .i64 2] w fun e w' =>
      e = .returned (.tuple #[trip (min x (3 * x * y - z)) (max x (3 * x * y - z)) y, .bool true]) ∧ Below w.heap.size w w' := by
  obtain ⟨a, b, c⟩ := Tri.le3 h h4
  obtain ⟨p, l⟩ := h.parent h2
  have e1 : min x (min y (3 * x * y - z)) = min x (3 * x * y - z) := by have := p.2.1; have := p.2.2.1; omega
  have e2 : mid x y (3 * x * y - z) = max x (3 * x * y - z) := by unfold mid; have := p.2.1; have := p.2.2.1; omega
  have e3 : max x (max y (3 * x * y - z)) = y := by have := p.2.1; have := p.2.2.1; omega
  have k := refExchange2 x y z w a b c
  rw [srt_eq e1 e2 e3, e3, show decide (y ≤ 1000000000) = true from by simp; omega] at k
  exact k
theorem refEx0 (x y z : Int) (w : World) (h : Tri x y z) (h4 : z ≤ 1000000000) :
    Calls Tryd.prog 36 #[trip x y z, .int .i64 0] w fun e w' =>
      e = .returned (.tuple #[trip y z (3 * y * z - x), .bool (decide (3 * y * z - x ≤ 1000000000))]) ∧ Below w.heap.size w w' := by
  obtain ⟨a, b, c⟩ := Tri.le3 h h4
  have l := h.left
  have e1 : min y (min z (3 * y * z - x)) = y := by have := l.2.1; have := l.2.2.1; omega
  have e2 : mid y z (3 * y * z - x) = z := by unfold mid; have := l.2.1; have := l.2.2.1; omega
  have e3 : max y (max z (3 * y * z - x)) = 3 * y * z - x := by have := l.2.1; have := l.2.2.1; omega
  have k := refExchange0 x y z w a b c
  rw [srt_eq e1 e2 e3, e3] at k
  exact k
theorem refEx1 (x y z : Int) (w : World) (h : Tri x y z) (h4 : z ≤ 1000000000) :
    Calls Tryd.prog 36 #[trip x y z, .int .i64 1] w fun e w' =>
      e = .returned (.tuple #[trip x z (3 * x * z - y), .bool (decide (3 * x * z - y ≤ 1000000000))]) ∧ Below w.heap.size w w' := by
  obtain ⟨a, b, c⟩ := Tri.le3 h h4
  have l := h.right
  have e0 : 3 * z * x = 3 * x * z := by grind
  have k := refExchange1 x y z w a b c
  rw [e0] at k
  have e1 : min z (min x (3 * x * z - y)) = x := by have := l.2.1; have := l.2.2.1; omega
  have e2 : mid z x (3 * x * z - y) = z := by unfold mid; have := l.2.1; have := l.2.2.1; omega
  have e3 : max z (max x (3 * x * z - y)) = 3 * x * z - y := by have := l.2.1; have := l.2.2.1; omega
  rw [srt_eq e1 e2 e3, e3] at k
  exact k

set_option maxRecDepth 100000 in
set_option maxHeartbeats 2000000 in
theorem refPath_any (x y z : Int) (w : World) (h : Tri x y z) (h4 : z ≤ 1000000000) :
    Calls Tryd.prog 22 #[trip x y z] w fun e w' => e = .returned (.tuple #[pathV x y z, .bool (decide (3 ≤ z))]) ∧ Below w.heap.size w w' := by
  have HT := Lib.hid h
  have hz1 : 1 ≤ z := by have := h.1; have := h.2.1; have := h.2.2.1; omega
  unfold trip
  clear h
  go_enter Tryd.func22, Tryd.ntmps22
  go_wp2_with fail
  go_loopg [4] z.toNat (fun k v wr => ∃ (a b c : Int) (l : ByteArray), v = .string l ∧ Hid (Tri a b c) ∧ 1 ≤ c ∧ c ≤ 1000000000 ∧ c.toNat ≤ k ∧ Whole wr w.heap.size 22 #[.int .i64 a, .int .i64 b, .int .i64 c] ∧
    Hid (pathOf x y z = pathOf a b c ++ l.data.toList ∧ (3 ≤ z ↔ 3 ≤ c)) ∧ l.size ≤ 1000000000 - c.toNat ∧ Below w.heap.size w wr)
  case atStart => exact ⟨x, y, z, ⟨#[]⟩, rfl, HT, hz1, h4, Nat.le_refl _, Whole.new w _ _, by simp [Hid], Nat.zero_le _, bl_alloc (bl_refl _) _⟩
  case round =>
    obtain ⟨a, b, c, l, rfl, T, hc1, hc9, hck, hW, HP, hll, hb⟩ := hrel
    have k0 : wr.cell? ⟨w.heap.size, 0, none⟩ = some (.int .i64 a) := (hW.cell 0).trans rfl
    have k1 : wr.cell? ⟨w.heap.size, 1, none⟩ = some (.int .i64 b) := (hW.cell 1).trans rfl
    have k2 : wr.cell? ⟨w.heap.size, 2, none⟩ = some (.int .i64 c) := (hW.cell 2).trans rfl
    have hs0 := hW.lt
    by_cases hf : 5 < c
    · have hlb := T.out.lt_of_two (by omega)
      have hb5 : 5 ≤ b := by
        rcases Int.lt_or_le 4 b with hb4 | hb4
        · omega
        · have := T.out.small (by omega) (by omega); omega
      have TP := T.out.parent (by omega)
      have HS := Lib.hid (T.out.path_step hf)
      have KP := Lib.hid fun W => refEx2 a b c W T.out hc9 (by omega)
      have KL := Lib.hid fun W => refEx0 _ _ _ W TP.1 (by omega)
      have HL := Lib.hid (letter_says a b c)
      obtain ⟨TQ0, _⟩ := TP
      have TQ := Lib.hid TQ0
      have HS2 : Hid (∀ d, letterOf a b c = d → pathOf x y z = pathOf (min a (3 * a * b - c)) (max a (3 * a * b - c)) b ++ ((⟨#[d]⟩ : ByteArray) ++ l).data.toList ∧ (3 ≤ z ↔ 3 ≤ b)) := by
        intro d hd
        refine ⟨?_, by rw [HP.out.2]; omega⟩
        rw [HP.out.1, HS.out, hd]
        simp [ByteArray.data_append]
      unfold trip at KP KL
      clear hf TQ0 HP HS
      generalize min a (3 * a * b - c) = p at *
      generalize max a (3 * a * b - c) = q at *
      by_cases hL : 3 * a * b - c ≤ a
      · obtain ⟨e1, e2⟩ := HL.out.1 hL
        have hok : 3 * q * b - p ≤ 1000000000 := by omega
        have E2 := eqA q b (3 * q * b - p) a b c
        rw [show decide (q = a ∧ b = b ∧ 3 * q * b - p = c) = true from by simp [e1, ← e2]] at E2
        have HQ := Lib.hid (HS2.out 76 (if_pos hL))
        clear e1 e2 HL HS2 hL
        go_wp2_with fail
        refine (KP.out _).mono ?_
        rintro e w2 ⟨rfl, hb2⟩
        obtain ⟨hc2, hf2⟩ := bl_cells hb2
        have hbB := bl_then hb hb2
        have hW2 := hW.kept hb2
        go_wp2_with fail
        refine (KL.out _).mono ?_
        rintro e w3 ⟨rfl, hb3⟩
        have hbC := bl_then (bl_alloc hbB _) hb3
        have hW3 := (hW2.alloc _).kept hb3
        have hP3 := (Whole.new w2 _ _).kept hb3
        have m0 : w3.cell? ⟨w.heap.size, 0, none⟩ = some (.int .i64 a) := (hW3.cell 0).trans rfl
        have m1 : w3.cell? ⟨w.heap.size, 1, none⟩ = some (.int .i64 b) := (hW3.cell 1).trans rfl
        have m2 : w3.cell? ⟨w.heap.size, 2, none⟩ = some (.int .i64 c) := (hW3.cell 2).trans rfl
        have n0 : w3.cell? ⟨w2.heap.size, 0, none⟩ = some (.int .i64 p) := (hP3.cell 0).trans rfl
        have n1 : w3.cell? ⟨w2.heap.size, 1, none⟩ = some (.int .i64 q) := (hP3.cell 1).trans rfl
        have n2 : w3.cell? ⟨w2.heap.size, 2, none⟩ = some (.int .i64 b) := (hP3.cell 2).trans rfl
        have j0 := hW3.frozen 0
        have j1 := hW3.frozen 1
        have j2 := hW3.frozen 2
        have hs3 := hW3.lt
        have hp3 := hP3.lt
        clear hc2 hf2 hb hW2 hP3
        go_wp2_with fail
        go_roundg b.toNat
        case measure => omega
        case rel => exact ⟨p, q, b, _, rfl, TQ, by omega, by omega, Nat.le_refl _, (((hW3.set 0 _).set 1 _).set 2 _).alloc _, HQ, by rw [ByteArray.size_append]; have h1 : (⟨#[76]⟩ : ByteArray).size = 1 := rfl; have h2 : (⟨#[82]⟩ : ByteArray).size = 1 := rfl; omega, bl_alloc (bl_set (bl_set (bl_set hbC (by simp) _) (by simp) _) (by simp) _) _⟩
      · have e1 := HL.out.2 hL
        have E2 := eqA q b (3 * q * b - p) a b c
        rw [show decide (q = a ∧ b = b ∧ 3 * q * b - p = c) = false from decide_eq_false e1] at E2
        have HQ := Lib.hid (HS2.out 82 (if_neg hL))
        clear e1 HL HS2 hL
        by_cases hok : 3 * q * b - p ≤ 1000000000
        · go_wp2_with fail
          refine (KP.out _).mono ?_
          rintro e w2 ⟨rfl, hb2⟩
          obtain ⟨hc2, hf2⟩ := bl_cells hb2
          have hbB := bl_then hb hb2
          have hW2 := hW.kept hb2
          go_wp2_with fail
          refine (KL.out _).mono ?_
          rintro e w3 ⟨rfl, hb3⟩
          have hbC := bl_then (bl_alloc hbB _) hb3
          have hW3 := (hW2.alloc _).kept hb3
          have hP3 := (Whole.new w2 _ _).kept hb3
          have m0 : w3.cell? ⟨w.heap.size, 0, none⟩ = some (.int .i64 a) := (hW3.cell 0).trans rfl
          have m1 : w3.cell? ⟨w.heap.size, 1, none⟩ = some (.int .i64 b) := (hW3.cell 1).trans rfl
          have m2 : w3.cell? ⟨w.heap.size, 2, none⟩ = some (.int .i64 c) := (hW3.cell 2).trans rfl
          have n0 : w3.cell? ⟨w2.heap.size, 0, none⟩ = some (.int .i64 p) := (hP3.cell 0).trans rfl
          have n1 : w3.cell? ⟨w2.heap.size, 1, none⟩ = some (.int .i64 q) := (hP3.cell 1).trans rfl
          have n2 : w3.cell? ⟨w2.heap.size, 2, none⟩ = some (.int .i64 b) := (hP3.cell 2).trans rfl
          have j0 := hW3.frozen 0
          have j1 := hW3.frozen 1
          have j2 := hW3.frozen 2
          have hs3 := hW3.lt
          have hp3 := hP3.lt
          clear hc2 hf2 hb hW2 hP3
          go_wp2_with fail
          go_roundg b.toNat
          case measure => omega
          case rel => exact ⟨p, q, b, _, rfl, TQ, by omega, by omega, Nat.le_refl _, (((hW3.set 0 _).set 1 _).set 2 _).alloc _, HQ, by rw [ByteArray.size_append]; have h1 : (⟨#[76]⟩ : ByteArray).size = 1 := rfl; have h2 : (⟨#[82]⟩ : ByteArray).size = 1 := rfl; omega, bl_alloc (bl_set (bl_set (bl_set hbC (by simp) _) (by simp) _) (by simp) _) _⟩
        · go_wp2_with fail
          refine (KP.out _).mono ?_
          rintro e w2 ⟨rfl, hb2⟩
          obtain ⟨hc2, hf2⟩ := bl_cells hb2
          have hbB := bl_then hb hb2
          have hW2 := hW.kept hb2
          go_wp2_with fail
          refine (KL.out _).mono ?_
          rintro e w3 ⟨rfl, hb3⟩
          have hbC := bl_then (bl_alloc hbB _) hb3
          have hW3 := (hW2.alloc _).kept hb3
          have hP3 := (Whole.new w2 _ _).kept hb3
          have m0 : w3.cell? ⟨w.heap.size, 0, none⟩ = some (.int .i64 a) := (hW3.cell 0).trans rfl
          have m1 : w3.cell? ⟨w.heap.size, 1, none⟩ = some (.int .i64 b) := (hW3.cell 1).trans rfl
          have m2 : w3.cell? ⟨w.heap.size, 2, none⟩ = some (.int .i64 c) := (hW3.cell 2).trans rfl
          have n0 : w3.cell? ⟨w2.heap.size, 0, none⟩ = some (.int .i64 p) := (hP3.cell 0).trans rfl
          have n1 : w3.cell? ⟨w2.heap.size, 1, none⟩ = some (.int .i64 q) := (hP3.cell 1).trans rfl
          have n2 : w3.cell? ⟨w2.heap.size, 2, none⟩ = some (.int .i64 b) := (hP3.cell 2).trans rfl
          have j0 := hW3.frozen 0
          have j1 := hW3.frozen 1
          have j2 := hW3.frozen 2
          have hs3 := hW3.lt
          have hp3 := hP3.lt
          clear hc2 hf2 hb hW2 hP3
          go_wp2_with fail
          go_roundg b.toNat
          case measure => omega
          case rel => exact ⟨p, q, b, _, rfl, TQ, by omega, by omega, Nat.le_refl _, (((hW3.set 0 _).set 1 _).set 2 _).alloc _, HQ, by rw [ByteArray.size_append]; have h1 : (⟨#[76]⟩ : ByteArray).size = 1 := rfl; have h2 : (⟨#[82]⟩ : ByteArray).size = 1 := rfl; omega, bl_alloc (bl_set (bl_set (bl_set hbC (by simp) _) (by simp) _) (by simp) _) _⟩
    · have HV : Hid (pathV x y z = .string l) := by
        have := HP.out.1
        rw [path_first (x := a) (y := b) (z := c) (by omega), List.nil_append] at this
        unfold pathV
        rw [this]
        rfl
      by_cases h3 : 3 ≤ c
      · obtain ⟨_, _, e⟩ := T.out.small h3 (by have := T.out.lt_of_two (by omega); omega)
        subst e
        have H3 : Hid (decide (3 ≤ z) = true) := by rw [Hid, decide_eq_true_eq, HP.out.2]; omega
        clear HP
        go_wp2_with fail
        go_quiet (fail)
        go_wp2_with fail
        go_ret2
        exact ⟨by rw [HV.out, H3.out]; rfl, bl_drewN hb _⟩
      · have hc5 : (c == 5) = false := by simp; omega
        have H3 : Hid (decide (3 ≤ z) = false) := by rw [Hid, decide_eq_false_iff_not, HP.out.2]; exact h3
        clear HP
        go_wp2_with fail
        go_quiet (fail)
        go_wp2_with fail
        go_ret2
        exact ⟨by rw [HV.out, H3.out]; rfl, bl_drewN hb _⟩
end Go.Proofs.YtebpeomonglkbaaDoor
