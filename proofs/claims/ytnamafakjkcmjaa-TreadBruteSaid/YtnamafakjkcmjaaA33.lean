/-
  The first word with a beginning: its own beginnings, and what comes before it. No function of the program stands in this text.
-/
import Derived.Test.YtnamafakjkcmjaaMK
namespace Go.Proofs.Ytnamafakjkcmjaa
open Go
set_option linter.unusedVariables false
set_option linter.unusedSimpArgs false

theorem way_mem {T : Tab} {m i : Nat} (h : can T m i = true) : wayL T m i ∈ accL T m i := List.mem_of_head? (acc_head m i h)
theorem way_split {T : Tab} {N q : Nat} (hT : TabOk T N q) (hq : q ≤ 3) : ∀ (m i d : Nat), i < N → can T m i = true → d ≤ m → ∃ i2, runT T i ((wayL T m i).take d) = some i2 ∧ can T (m - d) i2 = true ∧ wayL T (m - d) i2 = (wayL T m i).drop d
  | m, i, 0, _, h, _ => ⟨i, by rw [List.take_zero]; rfl, h, by rw [Nat.sub_zero, List.drop_zero]⟩
  | 0, i, d + 1, _, _, hd => absurd hd (by omega)
  | m + 1, i, d + 1, hi, h, hd => by
    obtain ⟨c, j, h1, h2, h3⟩ := firstG_some (can_succ.1 h)
    obtain ⟨hc, hj⟩ := stp_letter hT hq hi h2
    obtain ⟨i2, g1, g2, g3⟩ := way_split hT hq m j d hj h3 (by omega)
    rw [wayL_succ h1]
    refine ⟨i2, ?_, by rw [Nat.add_sub_add_right]; exact g2, by rw [Nat.add_sub_add_right, List.drop_succ_cons]; exact g3⟩
    rw [List.take_succ_cons, run_cons, step_to hc h2, if_pos (by omega), Int.toNat_natCast]
    exact g1
/-- No word that goes on comes before the first way. -/
theorem way_least {T : Tab} {N q : Nat} (hT : TabOk T N q) (hq : q ≤ 3) {m i : Nat} (hi : i < N) (h : can T m i = true) {z : Str} (hz : z ∈ accL T m i) : ¬ z < wayL T m i := by
  have h1 := acc_head m i h
  have h2 := acc_sorted hT hq m i hi
  revert h1 h2 hz
  generalize accL T m i = l
  intro hz h1 h2
  cases l with
  | nil => cases hz
  | cons a l =>
    rw [List.head?_cons] at h1
    injection h1 with h1
    subst h1
    rcases List.mem_cons.1 hz with e | e
    · rw [e]; exact str_irrefl _
    · intro hlt
      exact str_irrefl _ (str_trans hlt ((List.pairwise_cons.1 h2).1 z e))
theorem app_lt_left : ∀ (s : Str) {u v : Str}, s ++ u < s ++ v → u < v
  | [], u, v, h => h
  | a :: s, u, v, h => by
    rcases List.cons_lt_cons_iff.1 h with h' | ⟨_, h'⟩
    · exact absurd (List.cons_lt_cons_iff.2 (.inl h')) (str_irrefl [a])
    · exact app_lt_left s h'
/-- What Extend's word is, for a set. -/
structure ExtOk (set : List Str) (q n : Nat) (wd x : Str) : Prop where
  len : x.length = n
  pre : x.take wd.length = wd
  lett : Lett q x
  ok : okL set x = true
  mem : x ∈ accL (tabL set q) n 0
  own : ∀ K, wd.length ≤ K → K ≤ n → ∃ i2, runT (tabL set q) 0 (x.take K) = some i2 ∧ can (tabL set q) (n - K) i2 = true ∧ x.take K ++ wayL (tabL set q) (n - K) i2 = x
  least : ∀ z ∈ accL (tabL set q) n 0, z < x → z.take wd.length ≠ wd
theorem ext_ok {set : List Str} {q n i : Nat} {wd : Str} (h0 : okL set [] = true) (hp : ∀ p ∈ set, p.length ≤ 5) (hq : q ≤ 3) (hwl : Lett q wd) (hwn : wd.length ≤ n) (hr : runT (tabL set q) 0 wd = some i) (hc : can (tabL set q) (n - wd.length) i = true) :
    ExtOk set q n wd (wd ++ wayL (tabL set q) (n - wd.length) i) := by
  have hT := tab_ok (q := q) h0
  have hN0 : 0 < (stL set q).length := by rw [stL_fix h0]; simp
  have hi := run_lt hT wd 0 i hN0 hr
  obtain ⟨M, hM⟩ : ∃ M, M = n - wd.length := ⟨_, rfl⟩
  rw [← hM] at hc ⊢
  obtain ⟨g1, g2, j, g3⟩ := (mem_acc hT hq M i hi _).1 (way_mem hc)
  have hmem : wd ++ wayL (tabL set q) M i ∈ accL (tabL set q) n 0 := by
    refine (mem_acc hT hq n 0 hN0 _).2 ⟨by rw [List.length_append, g1]; omega, lett_app.2 ⟨hwl, g2⟩, j, ?_⟩
    rw [run_append, hr]
    exact g3
  obtain ⟨k1, k2, k3⟩ := (mem_acc0 h0 hp hq n _).1 hmem
  refine ⟨k1, by rw [List.take_left'] ; rfl, k2, k3, hmem, fun K hK1 hK2 => ?_, fun z hz hlt e => ?_⟩
  · obtain ⟨i2, a1, a2, a3⟩ := way_split hT hq M i (K - wd.length) hi hc (by omega)
    have ht : (wd ++ wayL (tabL set q) M i).take K = wd ++ (wayL (tabL set q) M i).take (K - wd.length) := by
      rw [List.take_append, List.take_of_length_le hK1]
    rw [ht]
    refine ⟨i2, by rw [run_append, hr]; exact a1, by rw [show n - K = M - (K - wd.length) by omega]; exact a2, ?_⟩
    rw [show n - K = M - (K - wd.length) by omega, a3, List.append_assoc, List.take_append_drop]
  · obtain ⟨z1, z2, jz, z3⟩ := (mem_acc hT hq n 0 hN0 z).1 hz
    have hsp : z = wd ++ z.drop wd.length := by
      conv => lhs; rw [← List.take_append_drop wd.length z, e]
    rw [hsp] at hlt z2 z3
    rw [run_append, hr] at z3
    have hz2 : z.drop wd.length ∈ accL (tabL set q) M i := (mem_acc hT hq M i hi _).2 ⟨by rw [List.length_drop, z1, hM], (lett_app.1 z2).2, jz, z3⟩
    exact way_least hT hq hi hc hz2 (app_lt_left wd hlt)
end Go.Proofs.Ytnamafakjkcmjaa
