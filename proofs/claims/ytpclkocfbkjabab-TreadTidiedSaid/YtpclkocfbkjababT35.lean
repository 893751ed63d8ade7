/-
  The reference: Turned. The law's texts.
-/
import Derived.Test.YtpclkocfbkjababT18
import Derived.Test.YtpclkocfbkjababT29
import Derived.Test.YtpclkocfbkjababMB
namespace Go.Proofs.Ytpclkocfbkjabab
open Go.RowKit Go.Shelf
set_option linter.unusedVariables false
set_option linter.unusedSimpArgs false

theorem minTurn_len (s : Str) : ∀ i, (minTurn s i).length = s.length
  | 0 => rfl
  | i + 1 => by
    unfold minTurn
    split
    · exact turnL_len s i
    · exact minTurn_len s i
/-- A slice of strings that are read in place. -/
def TextsAt (w : World) (v : Value) (L : List ByteArray) : Prop := ∃ A c, v = .slice A L.length c ∧ (0 < L.length → ∃ g off, A = some ⟨g, off, none⟩ ∧ g < w.heap.size ∧ ∀ i, i < L.length → w.cell? ⟨g, off + i, none⟩ = some (.string (L.getD i ByteArray.empty)))
theorem StrsAt.texts {w : World} {v : Value} {L : List ByteArray} (h : StrsAt w v L) : TextsAt w v L := by
  obtain ⟨A, c, e, _, _, h3⟩ := h
  exact ⟨A, c, e, h3⟩
theorem RowsV.texts {w : World} {B : Nat} {hdrs : List Value} {R : List (List Str)} (h : RowsV w B 9 hdrs (R.map encS)) {i : Nat} (hi : i < R.length) : ∃ v, hdrs[i]? = some v ∧ TextsAt w v ((R.getD i []).map bs) := by
  obtain ⟨b, c, h1, _, h3, h4⟩ := h.at (i := i) (by simpa using hi)
  have e : (R.map encS).getD i [] = encS (R.getD i []) := by
    rw [List.getD_eq_getElem?_getD, List.getElem?_map, List.getElem?_eq_getElem hi, List.getD_eq_getElem?_getD, List.getElem?_eq_getElem hi]
    rfl
  rw [e] at h1 h4
  have el : (encS (R.getD i [])).length = ((R.getD i []).map bs).length := by simp [encS]
  refine ⟨_, h1, some ⟨b, 0, none⟩, c, by rw [el], fun _ => ⟨b, 0, rfl, h3, fun j hj => ?_⟩⟩
  rw [Nat.zero_add, h4 j (by omega)]
  unfold encS
  have hj' : j < (R.getD i []).length := by simpa using hj
  rw [List.getElem?_map, List.getElem?_eq_getElem hj', show (List.map bs (R.getD i [])).getD j ByteArray.empty = bs ((R.getD i [])[j]) by rw [List.getD_eq_getElem?_getD, List.getElem?_map, List.getElem?_eq_getElem hj']; rfl]
  rfl
theorem TextsAt.kept {w w' : World} {v : Value} {L : List ByteArray} (h : TextsAt w v L) (hb : Below w.heap.size w w') : TextsAt w' v L := by
  obtain ⟨A, c, e, h3⟩ := h
  refine ⟨A, c, e, fun h0 => ?_⟩
  obtain ⟨g, off, ea, hg, hc⟩ := h3 h0
  exact ⟨g, off, ea, Nat.lt_of_lt_of_le hg hb.size, fun i hi => (hb.cell (p := ⟨g, off + i, none⟩) hg).trans (hc i hi)⟩
theorem texts_same (v v' : Value) (L : List ByteArray) (w : World) (h : TextsAt w v L) (h' : TextsAt w v' L) (hl : L.length ≤ 1000000) :
    Calls Try.prog 32 #[v, v'] w fun e w' => e = .returned (.bool true) ∧ Below w.heap.size w w' := by
  obtain ⟨A, c, rfl, hA⟩ := h
  obtain ⟨A', c', rfl, hA'⟩ := h'
  obtain ⟨N, hN⟩ : ∃ N, N = L.length := ⟨_, rfl⟩
  have HN := Lib.hid hN
  rw [← hN] at hl hA hA' ⊢
  clear hN
  have HA := Lib.hid hA
  have HA' := Lib.hid hA'
  clear hA hA'
  go_enter Try.func32, Try.ntmps32
  go_wp2_with fail
  go_loopw [5] (fun i wr => ∃ k : Nat, k ≤ N ∧ i = .int .i64 k ∧ Hid (Below w.heap.size w wr)) (fun i _ => N - (intOf i).toNat)
  case atStart => exact ⟨0, Nat.zero_le _, rfl, Lib.hid (bl_refl w)⟩
  case round =>
    obtain ⟨k, hk, rfl, HB⟩ := hrel
    by_cases hlt : k < N
    · obtain ⟨g, off, rfl, hg, hc⟩ := HA.out (by omega)
      obtain ⟨g', off', rfl, hg', hc'⟩ := HA'.out (by omega)
      have e1 := (HB.out.cell (p := ⟨g, off + k, none⟩) hg).trans (hc k hlt)
      have e2 := (HB.out.cell (p := ⟨g', off' + k, none⟩) hg').trans (hc' k hlt)
      have l1 : g < wr.heap.size := Nat.lt_of_lt_of_le hg HB.out.size
      have l2 : g' < wr.heap.size := Nat.lt_of_lt_of_le hg' HB.out.size
      obtain ⟨x, hx⟩ : ∃ x, x = L.getD k ByteArray.empty := ⟨_, rfl⟩
      rw [← hx] at e1 e2
      have hlt' : (k : Int) < (N : Int) := by omega
      clear hc hc' hx
      go_wp2_with fail
      go_quiet (fail)
      have HB2 := Lib.hid (bl_drewN HB.out nq)
      go_wp2_with fail
      go_roundw
      case rel => exact ⟨k + 1, by omega, by go_num, HB2⟩
      case measure => simp [intOf]; omega
    · have ek : k = N := by omega
      subst ek
      go_wp2_with fail
      go_ret
      exact ⟨rfl, HB.out⟩
end Go.Proofs.Ytpclkocfbkjabab
