/-
  The simple results that each law asks for. No function of the program stands in this text.
-/
import Derived.Test.YtpclkocfbkjabaaA7
import Derived.Test.YtpclkocfbkjabaaA12
namespace Go.Proofs.Ytpclkocfbkjabaa
open Go
set_option linter.unusedVariables false

/-- Growth's numbers are known as soon as they fit. -/
theorem ch_unique {M : Nat → Nat → Bool} {R : Nat → Bool} {N : Nat} (hM : ∀ a b c, a < N → b < N → c < N → M a b = true → M b c = true → M a c = true) {V : Nat → Int}
    (hV : ∀ i, i < N → V i = foldC V (fun j => M i j && !M j i) N + if R i then 1 else 0) : ∀ (f i : Nat), i < N → rkC M N i ≤ f → chC M R N i = V i
  | 0, i, hi, h => absurd (rk_pos (M := M) hi) (by omega)
  | f + 1, i, hi, h => by
    rw [ch_eq hM hi, hV i hi, foldC_congr (g' := V) fun k hk hp => ?_]
    simp only [Bool.and_eq_true, Bool.not_eq_true'] at hp
    have := rk_lt hM hi hk hp.1 hp.2
    exact ch_unique hM hV f k hk (by omega)
theorem foldC_pred {g : Nat → Int} {p p' : Nat → Bool} : ∀ {j : Nat}, (∀ k, k < j → p k = p' k) → foldC g p j = foldC g p' j
  | 0, _ => rfl
  | j + 1, h => by
    unfold foldC
    rw [foldC_pred fun k hk => h k (by omega), h j (by omega)]
/-- A table of distances, 0 where there is no way. -/
def dOf (D : List (List Nat)) (a b : Nat) : Nat := (D.getD a []).getD b 0
/-- The table is a table of ways: each number has a letter that leads one nearer; no letter leads out of it. -/
def certB (T : Tab) (N : Nat) (D : List (List Nat)) : Bool :=
  (List.range N).all fun a => (List.range N).all fun b =>
    (decide (dOf D a b = 0) || ((stp T a).any fun p => (decide (p.2 < N) && (if dOf D a b = 1 then decide (p.2 = b) else decide (dOf D p.2 b + 1 = dOf D a b) && decide (dOf D p.2 b ≠ 0))))) &&
    ((stp T a).all fun p => decide (p.2 < N) && (decide (p.2 ≠ b) || decide (dOf D a b ≠ 0)) && (decide (dOf D p.2 b = 0) || decide (dOf D a b ≠ 0)))
theorem cert_path {T : Tab} {N : Nat} {D : List (List Nat)} (h : certB T N D = true) : ∀ (d a b : Nat), a < N → b < N → dOf D a b = d + 1 → PathN T (d + 1) a b := by
  have h' : ∀ a b, a < N → b < N → (dOf D a b = 0 ∨ ∃ p ∈ stp T a, p.2 < N ∧ (if dOf D a b = 1 then p.2 = b else dOf D p.2 b + 1 = dOf D a b ∧ dOf D p.2 b ≠ 0)) := by
    intro a b ha hb
    unfold certB at h
    simp only [List.all_eq_true, List.mem_range, Bool.and_eq_true, Bool.or_eq_true, decide_eq_true_eq, List.any_eq_true] at h
    rcases (h a ha b hb).1 with h1 | ⟨p, hp, h1, h2⟩
    · exact .inl h1
    · refine .inr ⟨p, hp, h1, ?_⟩
      split at h2
      · rename_i e; rw [if_pos e]; simpa using h2
      · rename_i e; rw [if_neg e]; simpa using h2
  intro d
  induction d with
  | zero =>
    intro a b ha hb hd
    rcases h' a b ha hb with h1 | ⟨⟨c, j⟩, hp, h1, h2⟩
    · omega
    · rw [if_pos (by omega)] at h2
      exact ⟨c, j, hp, h2⟩
  | succ d ih =>
    intro a b ha hb hd
    rcases h' a b ha hb with h1 | ⟨⟨c, j⟩, hp, h1, h2⟩
    · omega
    · rw [if_neg (by omega)] at h2
      exact ⟨c, j, hp, ih j b h1 hb (by have := h2.1; dsimp only at this; omega)⟩
theorem cert_all {T : Tab} {N : Nat} {D : List (List Nat)} (h : certB T N D = true) : ∀ (m a b : Nat), a < N → b < N → PathN T (m + 1) a b → dOf D a b ≠ 0 := by
  have h' : ∀ a b, a < N → b < N → ∀ p ∈ stp T a, p.2 < N ∧ (p.2 = b → dOf D a b ≠ 0) ∧ (dOf D p.2 b ≠ 0 → dOf D a b ≠ 0) := by
    intro a b ha hb p hp
    unfold certB at h
    simp only [List.all_eq_true, List.mem_range, Bool.and_eq_true, Bool.or_eq_true, decide_eq_true_eq] at h
    obtain ⟨⟨h1, h2⟩, h3⟩ := (h a ha b hb).2 p hp
    exact ⟨h1, fun e => h2.resolve_left fun h => h e, fun e => h3.resolve_left e⟩
  intro m
  induction m with
  | zero =>
    rintro a b ha hb ⟨c, j, hp, hj⟩
    exact (h' a b ha hb _ hp).2.1 hj
  | succ m ih =>
    rintro a b ha hb ⟨c, j, hp, hj⟩
    obtain ⟨h1, _, h3⟩ := h' a b ha hb _ hp
    exact h3 (ih j b h1 hb hj)
theorem cert_lead {T : Tab} {N : Nat} {D : List (List Nat)} {M : Nat → Nat → Bool} (h : certB T N D = true) (hM : LeadOk T N M) {a b : Nat} (ha : a < N) (hb : b < N) : M a b = decide (dOf D a b ≠ 0) := by
  rw [Bool.eq_iff_iff, hM a b ha hb, decide_eq_true_eq]
  constructor
  · rintro ⟨m, hp⟩
    exact cert_all h m a b ha hb hp
  · intro hd
    obtain ⟨d, hd⟩ : ∃ d, dOf D a b = d + 1 := ⟨dOf D a b - 1, by omega⟩
    exact ⟨d, cert_path h d a b ha hb hd⟩

/-! ### The four results -/
def aw1 : List ByteArray := [⟨#[97, 97]⟩, ⟨#[97, 98]⟩, ⟨#[98, 98]⟩]
def aw2 : List ByteArray := [⟨#[97, 97]⟩, ⟨#[98, 98]⟩]
def aw3 : List ByteArray := [⟨#[98, 97]⟩]
theorem aw1_set : setB 2 aw1 = true := by decide +kernel
theorem aw2_set : setB 2 aw2 = true := by decide +kernel
theorem aw3_set : setB 2 aw3 = true := by decide +kernel
theorem aw1_tab : tabL (pats aw1) 2 = [[1, 2], [-1, -1], [3, -1], [-1, -1]] := by decide +kernel
theorem aw2_tab : tabL (pats aw2) 2 = [[1, 2], [-1, 3], [4, -1], [5, -1], [-1, 6], [-1, 7], [8, -1], [8, -1], [-1, 7]] := by decide +kernel
theorem aw3_tab : tabL (pats aw3) 2 = [[1, 2], [3, 4], [-1, 5], [6, 7], [-1, 8], [-1, 9], [10, 11], [-1, 12], [-1, 13], [-1, 14], [10, 11], [-1, 12], [-1, 13], [-1, 14], [-1, 14]] := by decide +kernel
theorem aw1_way {m : Nat} (h : Lng (tabL (pats aw1) 2) 0 m) : wayL (tabL (pats aw1) 2) m 0 = [98, 97] := by
  have h2 : Lng (tabL (pats aw1) 2) 0 (2 : Nat) := .inr ⟨2, rfl, by rw [aw1_tab]; decide +kernel, by rw [aw1_tab]; decide +kernel⟩
  have e := h.one h2
  have e2 : m = 2 := by omega
  rw [e2, aw1_tab]
  decide +kernel
theorem aw1_can : can (tabL (pats aw1) 2) 1000 0 = false := by
  cases h : can (tabL (pats aw1) 2) 1000 0 with
  | false => rfl
  | true =>
    have h3 := can_le (show 3 ≤ 1000 by omega) h
    rw [aw1_tab] at h3
    exact absurd h3 (by decide +kernel)
theorem aw2_len : (stL (pats aw2) 2).length = 9 := by decide +kernel
theorem aw2_ok : okL (pats aw2) [] = true := ok_nil (pats_some aw2_set)
theorem aw2_no {m : Nat} (h : Lng (tabL (pats aw2) 2) 0 m) : False := by
  have hc : can (tabL (pats aw2) 2) 9 0 = true := by rw [aw2_tab]; decide +kernel
  have hT := tab_ok (q := 2) aw2_ok
  rw [aw2_len] at hT
  have := can_ever hT (by omega) hc (m + 1)
  rcases h with ⟨h, _⟩ | ⟨k, h1, h2, h3⟩
  · omega
  · have e : k = m := by omega
    rw [e] at h3
    rw [h3] at this; cases this
theorem aw2_best {n : Nat} (h0 : 1 ≤ n) (h1 : ∀ m, 1 ≤ m → m < n → ∀ i, i < 9 → rc (tabL (pats aw2) 2) i m i = false) (h2 : ∃ i, i < 9 ∧ rc (tabL (pats aw2) 2) i n i = true) : bestN (tabL (pats aw2) 2) n 9 = [97, 98] := by
  have e : n = 2 := by
    rcases Nat.lt_trichotomy n 2 with h | h | h
    · have e1 : n = 1 := by omega
      subst e1
      obtain ⟨i, hi, hr⟩ := h2
      have : ∀ i, i < 9 → rc (tabL (pats aw2) 2) i 1 i = false := by rw [aw2_tab]; decide +kernel
      rw [this i hi] at hr; cases hr
    · exact h
    · have := h1 2 (by omega) h 7 (by omega)
      rw [aw2_tab] at this
      exact absurd this (by decide +kernel)
  rw [e, aw2_tab]
  decide +kernel
theorem aw3_len : (stL (pats aw3) 2).length = 15 := by decide +kernel
/-- Distances by rounds. -/
def distStep (T : Tab) (N : Nat) (D : List (List Nat)) : List (List Nat) :=
  (List.range N).map fun a => (List.range N).map fun b =>
    if dOf D a b ≠ 0 then dOf D a b
    else match (stp T a).find? fun p => dOf D p.2 b ≠ 0 with
      | some p => dOf D p.2 b + 1
      | none => 0
def dist0 (T : Tab) (N : Nat) : List (List Nat) := (List.range N).map fun a => (List.range N).map fun b => if (stp T a).any fun p => p.2 == b then 1 else 0
def distN (T : Tab) (N : Nat) : Nat → List (List Nat)
  | 0 => dist0 T N
  | k + 1 => distStep T N (distN T N k)
def aw3D : List (List Nat) := [[0, 1, 1, 2, 2, 2, 3, 3, 3, 3, 4, 4, 4, 4, 4], [0, 0, 0, 1, 1, 0, 2, 2, 2, 0, 3, 3, 3, 3, 4],
  [0, 0, 0, 0, 0, 1, 0, 0, 0, 2, 0, 0, 0, 0, 3], [0, 0, 0, 0, 0, 0, 1, 1, 0, 0, 2, 2, 2, 3, 4],
  [0, 0, 0, 0, 0, 0, 0, 0, 1, 0, 0, 0, 0, 2, 3], [0, 0, 0, 0, 0, 0, 0, 0, 0, 1, 0, 0, 0, 0, 2],
  [0, 0, 0, 0, 0, 0, 0, 0, 0, 0, 1, 1, 2, 3, 4], [0, 0, 0, 0, 0, 0, 0, 0, 0, 0, 0, 0, 1, 2, 3],
  [0, 0, 0, 0, 0, 0, 0, 0, 0, 0, 0, 0, 0, 1, 2], [0, 0, 0, 0, 0, 0, 0, 0, 0, 0, 0, 0, 0, 0, 1],
  [0, 0, 0, 0, 0, 0, 0, 0, 0, 0, 1, 1, 2, 3, 4], [0, 0, 0, 0, 0, 0, 0, 0, 0, 0, 0, 0, 1, 2, 3],
  [0, 0, 0, 0, 0, 0, 0, 0, 0, 0, 0, 0, 0, 1, 2], [0, 0, 0, 0, 0, 0, 0, 0, 0, 0, 0, 0, 0, 0, 1],
  [0, 0, 0, 0, 0, 0, 0, 0, 0, 0, 0, 0, 0, 0, 1]]
def aw3T : Tab := [[1, 2], [3, 4], [-1, 5], [6, 7], [-1, 8], [-1, 9], [10, 11], [-1, 12], [-1, 13], [-1, 14], [10, 11], [-1, 12], [-1, 13], [-1, 14], [-1, 14]]
theorem aw3_cert : certB aw3T 15 aw3D = true := by decide +kernel
def aw3M (a b : Nat) : Bool := decide (dOf aw3D a b ≠ 0)
def aw3V (i : Nat) : Int := [2, 2, 1, 2, 1, 1, 2, 1, 1, 1, 2, 1, 1, 1, 1].getD i 0
def inN' (T : Tab) (M : Nat → Nat → Bool) (i : Nat) : Nat := ((stp T i).filter fun p => M p.2 i).length
theorem inN'_same {T : Tab} {N q : Nat} {M M' : Nat → Nat → Bool} (hT : TabOk T N q) (h : ∀ a b, a < N → b < N → M a b = M' a b) {i : Nat} (hi : i < N) : inN' T M i = inN' T M' i := by
  unfold inN'
  rw [List.filter_congr fun p hp => h p.2 i (hT.stp hi hp).2 hi]
theorem aw3_grow {M : Nat → Nat → Bool} (hM : LeadOk (tabL (pats aw3) 2) 15 M) : (∀ i, i < 15 → inN' (tabL (pats aw3) 2) M i ≤ 1) ∧ chC M (fun i => inN' (tabL (pats aw3) 2) M i == 1) 15 0 = 2 := by
  have hT := tab_ok (q := 2) (ok_nil (pats_some aw3_set))
  have hMM : ∀ a b, a < 15 → b < 15 → M a b = aw3M a b := fun a b ha hb => cert_lead (D := aw3D) (by rw [aw3_tab]; exact aw3_cert) hM ha hb
  rw [aw3_len] at hT
  have hin : ∀ i, i < 15 → inN' (tabL (pats aw3) 2) M i = inN' aw3T aw3M i := fun i hi => by
    rw [inN'_same hT hMM hi, aw3_tab]; rfl
  constructor
  · intro i hi
    rw [hin i hi]
    exact (by decide +kernel : ∀ i, i < 15 → inN' aw3T aw3M i ≤ 1) i hi
  · rw [ch_unique (V := aw3V) (fun a b c ha hb hc h1 h2 => hM.trans ha hb hc h1 h2) (fun i hi => ?_) 15 0 (by omega) (rk_le _ _ _)]
    · rfl
    · rw [hin i hi, foldC_pred (p' := fun j => aw3M i j && !aw3M j i) fun k hk => by rw [hMM i k hi hk, hMM k i hk hi]]
      exact (by decide +kernel : ∀ i, i < 15 → aw3V i = foldC aw3V (fun j => aw3M i j && !aw3M j i) 15 + if (inN' aw3T aw3M i == 1) = true then 1 else 0) i hi
end Go.Proofs.Ytpclkocfbkjabaa
