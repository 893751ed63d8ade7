/-
  The reference: IsLoop.
-/
import Derived.Test.YtpclkocfbkjababMJ
import Derived.Test.YtpclkocfbkjababMK
namespace Go.Proofs.Ytpclkocfbkjabab
open Go.RowKit Go.Shelf
set_option linter.unusedVariables false
set_option linter.unusedSimpArgs false

def strV : Value → ByteArray
  | .string s => s
  | _ => ⟨#[]⟩
set_option maxRecDepth 100000 in
set_option maxHeartbeats 4000000 in
theorem IsLoop_any (v : Value) (ss : List ByteArray) (wd : Str) (w : World) (hv : StrsAt w v ss) (hl : ss.length ≤ 1000) (hz : ∀ p ∈ ss, p.size ≤ 5) (hw : wd.length ≤ 1000) :
    Calls Try.prog 37 #[v, .string (bs wd)] w fun e w' => e = .returned (.bool (loopB (pats ss) wd)) ∧ Below w.heap.size w w' := by
  have AV := Lib.hid fun s h => Avoids_any v ss s w hv (fun p hp => Nat.le_trans (hz p hp) (by omega)) hl h
  have hp5 : ∀ p ∈ pats ss, p.length ≤ 5 := fun p hp => by
    obtain ⟨s, hs, rfl⟩ := List.mem_map.1 hp
    exact hz s hs
  by_cases h0 : wd = []
  · subst h0
    have e : bs ([] : Str) = ⟨#[]⟩ := rfl
    rw [e, show loopB (pats ss) [] = false from rfl]
    clear AV hp5 hz hv hl hw e
    go_enter Try.func37, Try.ntmps37
    go_wp2_with fail
    go_loopw [5] (fun ov wr => ov = .string ⟨#[]⟩ ∧ wr = w) (fun _ _ => 0)
    case atStart => exact ⟨rfl, rfl⟩
    case round =>
      obtain ⟨rfl, rfl⟩ := hrel
      go_wp2_with fail
      go_ret
      exact ⟨rfl, bl_refl _⟩
  · have t1 := bs_toList wd
    have t2 : (⟨#[]⟩ : ByteArray).toList = [] := bs_toList []
    have t3 : List.isEmpty wd = false := by cases wd with | nil => exact absurd rfl h0 | cons a l => rfl
    have hL : 0 < wd.length := List.length_pos_iff.2 h0
    have LB := Lib.hid fun n' h => loop_any (n' := n') hL hp5 h
    obtain ⟨L, hLd⟩ : ∃ L, L = wd.length := ⟨_, rfl⟩
    have hzs : (bs wd).size = L := hLd.symm
    have HL := Lib.hid hLd
    rw [← hLd] at hL hw LB
    have hw5 : IntKind.i64.wrap ((L : Int) + 5) = ((L + 5 : Nat) : Int) := by rw [show (L : Int) + 5 = ((L + 5 : Nat) : Int) by omega]; exact wrapI (by omega)
    obtain ⟨r, hr⟩ : ∃ r, r = loopB (pats ss) wd := ⟨_, rfl⟩
    rw [← hr] at LB ⊢
    clear hp5 hz hv hl hLd hr
    go_enter Try.func37, Try.ntmps37
    go_wp2_with fail
    go_loopw [5] (fun ov wr => ∃ (A : Str), ov = .string (bs A) ∧ A.length ≤ 3000 ∧ Hid (∃ j, A = repN wd (j * L)) ∧ wr = w) (fun ov _ => L + 5 - (strV ov).size)
    case atStart => exact ⟨wd, rfl, by have := HL.out; omega, Lib.hid ⟨1, by rw [Nat.one_mul, HL.out, repN_one]⟩, rfl⟩
    case round =>
      obtain ⟨A, rfl, hA, HJ, rfl⟩ := hrel
      obtain ⟨Z, hZ⟩ : ∃ Z, Z = A.length := ⟨_, rfl⟩
      have hZs : (bs A).size = Z := hZ.symm
      have HZ := Lib.hid hZ
      rw [← hZ] at hA
      clear hZ
      by_cases hlt : Z < L + 5
      · have hlt' : (Z : Int) < (L : Int) + 5 := by omega
        have HJ2 : Hid (∃ j, A ++ wd = repN wd (j * L)) := Lib.hid (by
          obtain ⟨j, hj⟩ := HJ.out
          refine ⟨j + 1, ?_⟩
          rw [hj, HL.out]
          exact repN_add (by rw [← HL.out]; exact hL) j)
        obtain ⟨B, hB⟩ : ∃ B, B = A ++ wd := ⟨_, rfl⟩
        rw [← hB] at HJ2
        have happ : bs A ++ bs wd = bs B := by rw [hB]; exact bs_append _ _
        have hBl : B.length = Z + L := by rw [hB, List.length_append, ← HZ.out, ← HL.out]
        have HBL := Lib.hid hBl
        have hsum : ¬ 9223372036854775807 < (bs A).size + (bs wd).size := by omega
        clear hB hBl
        go_wp2_with fail
        go_roundw
        case rel => exact ⟨B, by first | rfl | rw [happ], by have := HBL.out; omega, HJ2, by first | rfl | trivial⟩
        case measure =>
          have h1 : (bs B).size = Z + L := HBL.out
          first | (rw [happ]; simp only [strV]; omega) | (simp only [strV]; omega)
      · have hlt' : ¬ (Z : Int) < (L : Int) + 5 := by omega
        have hle : (L : Int) + 5 ≤ (Z : Int) := by omega
        have HR : Hid (r = okL (pats ss) A) := Lib.hid (by
          obtain ⟨j, hj⟩ := HJ.out
          have hl := congrArg List.length hj
          rw [repN_len, ← HZ.out] at hl
          rw [hj]
          exact LB.out _ (by omega))
        have AVA := Lib.hid (AV.out (bs A) (by omega))
        rw [sb_bs, ← HR.out] at AVA
        clear LB AV
        go_wp2_with fail
        refine AVA.out.mono ?_
        rintro e w2 ⟨rfl, rfl⟩
        go_wp2_with fail
        go_ret
        exact ⟨rfl, bl_refl _⟩
end Go.Proofs.Ytpclkocfbkjabab
