/-
  Growth is -1 for a finite language alone; one letter.
-/
import Derived.Test.YtnamafakjkcmjaaA30
import Derived.Test.YtnamafakjkcmjaaA19
namespace Go.Proofs.Ytnamafakjkcmjaa
open Go
set_option linter.unusedVariables false
set_option linter.unusedSimpArgs false

theorem foldC_zero (p : Nat → Bool) : ∀ j, foldC (fun _ => 0) p j = 0
  | 0 => rfl
  | j + 1 => by
    unfold foldC
    rw [foldC_zero p j]
    split <;> rfl
theorem circle_endless {set : List Str} {q i n : Nat} (h0 : okL set [] = true) (hp : ∀ p ∈ set, p.length ≤ 5) (hq : q ≤ 3) (hi : i < (stL set q).length) (hn : 1 ≤ n) (h : PathN (tabL set q) n i i) (m : Nat) : can (tabL set q) m 0 = true := by
  obtain ⟨g1, g2, g3⟩ := best_loop h0 hp hq hn ⟨i, hi, rc_path.2 h⟩
  exact rep_endless h0 hp hq (by omega) g2 g3 m
theorem in_circle {T : Tab} {N q i : Nat} {M : Nat → Nat → Bool} (hT : TabOk T N q) (hM : LeadOk T N M) (hi : i < N) : 1 ≤ inN T M i ↔ ∃ n, PathN T (n + 1) i i := by
  unfold inN
  rw [Nat.one_le_iff_ne_zero, ne_eq, List.length_eq_zero_iff, List.filter_eq_nil_iff]
  constructor
  · intro h
    refine Classical.byContradiction fun hn => h ?_
    rintro ⟨c, j⟩ hp hm
    obtain ⟨k, hk⟩ := (hM j i (hT.stp hi hp).2 hi).1 hm
    exact hn ⟨k + 1, c, j, hp, hk⟩
  · rintro ⟨n, c, j, hp, hk⟩ h
    have hj := (hT.stp hi hp).2
    refine h (c, j) hp ?_
    rcases n with _ | n
    · obtain rfl : j = i := hk
      exact (hM j j hj hj).2 ⟨0, c, j, hp, rfl⟩
    · exact (hM j i hj hi).2 ⟨n, hk⟩
theorem grow_ends {set : List Str} {q : Nat} {g : Int} (h0 : okL set [] = true) (hp : ∀ p ∈ set, p.length ≤ 5) (hq : q ≤ 3) (hfin : ∃ m, can (tabL set q) m 0 = false) (hg : GrowIs (tabL set q) (stL set q).length g) : g = -1 := by
  have hT := tab_ok (q := q) h0
  have hN0 : 0 < (stL set q).length := by rw [stL_fix h0]; simp
  obtain ⟨M, hM, hg⟩ := hg
  have hz : ∀ i, i < (stL set q).length → inN (tabL set q) M i = 0 := fun i hi => by
    refine Classical.byContradiction fun hn => ?_
    obtain ⟨n, hn⟩ := (in_circle hT hM hi).1 (by omega)
    obtain ⟨m, hm⟩ := hfin
    rw [circle_endless h0 hp hq hi (by omega) hn m] at hm
    cases hm
  rcases hg with ⟨⟨i, hi, h1⟩, rfl⟩ | ⟨_, rfl⟩
  · have := hz i hi; omega
  · rw [ch_unique (V := fun _ => 0) (fun a b c ha hb hc h1 h2 => hM.trans ha hb hc h1 h2) (fun i hi => ?_) _ 0 hN0 (rk_le _ _ _)]
    · rfl
    · rw [foldC_zero, hz i hi]; rfl
theorem grow_on {set : List Str} {q : Nat} {g : Int} (h0 : okL set [] = true) (hp : ∀ p ∈ set, p.length ≤ 5) (hq : q ≤ 3) (hinf : ∀ m, can (tabL set q) m 0 = true) (hg : GrowIs (tabL set q) (stL set q).length g) : -2 ≤ g ∧ g ≠ -1 := by
  have hT := tab_ok (q := q) h0
  have hN0 : 0 < (stL set q).length := by rw [stL_fix h0]; simp
  obtain ⟨M, hM, hg⟩ := hg
  rcases hg with ⟨_, rfl⟩ | ⟨h1, rfl⟩
  · omega
  · have hR : ∀ i, i < (stL set q).length → (∃ n, PathN (tabL set q) (n + 1) i i) → (inN (tabL set q) M i == 1) = true := fun i hi h => by
      have := (in_circle hT hM hi).2 h
      have := h1 i hi
      simp; omega
    have hone : ∀ i, i < (stL set q).length → (∃ n, PathN (tabL set q) (n + 1) i i) → 1 ≤ chC M (fun i => inN (tabL set q) M i == 1) (stL set q).length i := fun i hi h => by
      rw [ch_eq (fun a b c ha hb hc h1 h2 => hM.trans ha hb hc h1 h2) hi]
      exact Int.le_trans (show (1 : Int) ≤ 0 + 1 by omega) (Int.add_le_add (foldC_nonneg _ _ _) (Int.le_of_eq (if_pos (hR i hi h)).symm))
    obtain ⟨m, f, hm1, _, hf, hr⟩ := closed_way hT hN0 hinf
    have hpf := rc_path.1 hr
    have hcf : ∃ n, PathN (tabL set q) (n + 1) f f := ⟨m - 1, by rw [show m - 1 + 1 = m by omega]; exact hpf⟩
    have hchf := hone f hf hcf
    have key : 1 ≤ chC M (fun i => inN (tabL set q) M i == 1) (stL set q).length 0 := by
      by_cases e : f = 0
      · rw [e] at hchf; exact hchf
      · have h0f : M 0 f = true := (lead_from hq h0 rfl hM).1 f hf e
        cases hf0 : M f 0 with
        | false =>
          exact Int.le_trans hchf (Int.le_trans (Int.le_add_of_nonneg_right (by split <;> omega)) (chC_ge (R := fun i => inN (tabL set q) M i == 1) (fun a b c ha hb hc h1 h2 => hM.trans ha hb hc h1 h2) hN0 hf h0f hf0))
        | true =>
          obtain ⟨n, hn⟩ := (hM 0 0 hN0 hN0).1 (hM.trans hN0 hf hN0 h0f hf0)
          exact hone 0 hN0 ⟨n, hn⟩
    omega
theorem one_letter {L : List ByteArray} (hs : setB (1 : Nat) L = true) (hinf : can (tabL (pats L) 1) 5 0 = true) : L = [] := by
  have h0 := ok_nil (pats_some hs)
  have hp := pats_five hs
  rcases L with _ | ⟨p, L⟩
  · rfl
  exfalso
  have hq1 : (1 : Nat) ≤ 3 := by omega
  obtain ⟨h1, h2, h3⟩ := way_in (q := 1) (m := 5) h0 hp hq1 hinf
  obtain ⟨g1, g2, g3⟩ := (setB_iff.1 hs).2.2.1 p List.mem_cons_self
  have all : ∀ s : Str, Lett 1 s → s = List.replicate s.length 97 := fun s hs => by
    refine List.eq_replicate_of_mem fun b hb => ?_
    obtain ⟨c, hc, rfl⟩ := hs b hb
    obtain rfl : c = 0 := by omega
    rfl
  have e1 := all _ h2
  have e2 := all _ ((lettB_iff hq1 (sb p)).1 g3)
  rw [h1] at e1
  refine ok_iff.1 h3 (sb p) (List.mem_cons_self) ?_
  rw [e1, e2, sb_size]
  refine ⟨[], List.replicate (5 - p.size) 97, ?_⟩
  rw [List.nil_append, List.replicate_append_replicate]
  congr 1
  omega
def oneD : List (List Nat) := [[0, 1, 2, 3, 4], [0, 0, 1, 2, 3], [0, 0, 0, 1, 2], [0, 0, 0, 0, 1], [0, 0, 0, 0, 1]]
def oneT : Tab := [[1], [2], [3], [4], [4]]
def oneM (a b : Nat) : Bool := decide (dOf oneD a b ≠ 0)
theorem one_tab : tabL (pats []) 1 = oneT := by decide +kernel
theorem one_len : (stL (pats []) 1).length = 5 := by decide +kernel
theorem one_grow {g : Int} (hg : GrowIs (tabL (pats []) 1) (stL (pats []) 1).length g) : g = 0 := by
  have hT := tab_ok (q := 1) (set := pats []) rfl
  rw [one_len, one_tab] at hg hT
  obtain ⟨M, hM, hg⟩ := hg
  have hMM : ∀ a b, a < 5 → b < 5 → M a b = oneM a b := fun a b ha hb => cert_lead (D := oneD) (by decide +kernel) hM ha hb
  have hin : ∀ i, i < 5 → inN oneT M i = inN oneT oneM i := fun i hi => inN_same hT hMM hi
  rcases hg with ⟨⟨i, hi, h1⟩, rfl⟩ | ⟨_, rfl⟩
  · rw [hin i hi] at h1
    have := (by decide +kernel : ∀ i, i < 5 → inN oneT oneM i ≤ 1) i hi
    omega
  · rw [ch_unique (V := fun _ => 1) (fun a b c ha hb hc h1 h2 => hM.trans ha hb hc h1 h2) (fun i hi => ?_) 5 0 (by omega) (rk_le _ _ _)]
    · rfl
    · rw [hin i hi, foldC_pred (p' := fun j => oneM i j && !oneM j i) fun k hk => by rw [hMM i k hi hk, hMM k i hk hi]]
      exact (by decide +kernel : ∀ i, i < 5 → (1 : Int) = foldC (fun _ => 1) (fun j => oneM i j && !oneM j i) 5 + if (inN oneT oneM i == 1) = true then 1 else 0) i hi
theorem one_cnt (n : Nat) : cntT (tabL (pats []) 1) n 0 = 1 := by
  have e : (accL (tabL (pats []) 1) n 0).length = 1 := by
    rw [acc_words (set := pats []) (q := 1) rfl (fun p hp => absurd hp List.not_mem_nil) (by omega), List.filter_eq_self.2 (fun a _ => (rfl : okL (pats []) a = true)), words_len, Nat.one_pow]
  rw [cnt_acc, e]
  rfl
theorem fin_fewB {set : List Str} {q : Nat} (h0 : okL set [] = true) (hp : ∀ p ∈ set, p.length ≤ 5) (hl : set.length ≤ 12) (hq : q ≤ 3) (hfin : ∃ m, can (tabL set q) m 0 = false) (n : Nat) : fewB (tabL set q) n = true := by
  refine few_all fun m _ => ?_
  have h1 := fin_few h0 hp hl hq hfin m
  have h2 := cnt_acc (tabL set q) m 0
  have h3 : (2 : Nat) ^ 48 = 281474976710656 := by decide +kernel
  unfold most1 at *
  omega
end Go.Proofs.Ytnamafakjkcmjaa
