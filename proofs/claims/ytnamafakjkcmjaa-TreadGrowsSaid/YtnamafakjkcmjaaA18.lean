/-
  The shortest loops, looked for from state to state. No function of the program stands in this text.
-/
import Derived.Test.YtnamafakjkcmjaaMC
namespace Go.Proofs.Ytnamafakjkcmjaa
open Go
set_option linter.unusedVariables false

def lessS (a b : Str) : Bool := Op.bytesLess (bs a).toList (bs b).toList
/-- What is the best after the first states. -/
def BestAt (T : Tab) (N s : Nat) (best : Str) : Prop :=
  (best = [] ∧ ∀ i, i < s → ∀ m, 1 ≤ m → m ≤ N → rc T i m i = false) ∨
  (∃ n, 1 ≤ n ∧ n ≤ N ∧ best.length = n ∧ best = bestN T n s ∧ (∃ i, i < s ∧ rc T i n i = true) ∧ ∀ i, i < s → ∀ m, 1 ≤ m → m < n → rc T i m i = false)
theorem BestAt.zero (T : Tab) (N : Nat) : BestAt T N 0 [] := .inl ⟨rfl, fun i h => absurd h (Nat.not_lt_zero _)⟩
theorem bestN_no {T : Tab} {n s : Nat} (h : rc T s n s = false) : bestN T n (s + 1) = bestN T n s := by
  show (if rc T s n s = true ∧ _ then _ else _) = _
  rw [if_neg (by simp [h])]
theorem BestAt.none {T : Tab} {N s : Nat} {best : Str} (h : BestAt T N s best) (hno : ∀ m, 1 ≤ m → m ≤ N → (best = [] ∨ m ≤ best.length) → rc T s m s = false) : BestAt T N (s + 1) best := by
  rcases h with ⟨rfl, h⟩ | ⟨n, h1, h2, h3, h4, ⟨i0, h5, h5'⟩, h6⟩
  · refine .inl ⟨rfl, fun i hi m hm1 hm2 => ?_⟩
    rcases Nat.lt_or_eq_of_le (Nat.le_of_lt_succ hi) with h' | rfl
    · exact h i h' m hm1 hm2
    · exact hno m hm1 hm2 (.inl rfl)
  · refine .inr ⟨n, h1, h2, h3, ?_, ⟨i0, by omega, h5'⟩, fun i hi m hm1 hm2 => ?_⟩
    · rw [bestN_no (hno n h1 h2 (.inr (by omega)))]; exact h4
    · rcases Nat.lt_or_eq_of_le (Nat.le_of_lt_succ hi) with h' | rfl
      · exact h6 i h' m hm1 hm2
      · exact hno m hm1 (by omega) (.inr (by omega))
theorem BestAt.found {T : Tab} {N s n : Nat} {best : Str} (h : BestAt T N s best) (hn1 : 1 ≤ n) (hn2 : n ≤ N) (hb : best = [] ∨ n ≤ best.length) (hno : ∀ m, 1 ≤ m → m < n → rc T s m s = false) (hyes : rc T s n s = true) :
    BestAt T N (s + 1) (if best = [] ∨ n < best.length ∨ lessS (wayG (rc T s) T n s) best = true then wayG (rc T s) T n s else best) := by
  have hlen := rc_len hyes
  rcases h with ⟨rfl, h⟩ | ⟨k, h1, h2, h3, h4, ⟨i0, h5, h5'⟩, h6⟩
  · rw [if_pos (.inl rfl)]
    refine .inr ⟨n, hn1, hn2, hlen, ?_, ⟨s, by omega, hyes⟩, fun i hi m hm1 hm2 => ?_⟩
    · show _ = (if rc T s n s = true ∧ _ then _ else _)
      rw [if_pos ⟨hyes, .inl (bestN_none fun k hk => h k hk n hn1 hn2)⟩]
    · rcases Nat.lt_or_eq_of_le (Nat.le_of_lt_succ hi) with h' | rfl
      · exact h i h' m hm1 (by omega)
      · exact hno m hm1 hm2
  · have hne : best ≠ [] := by rintro rfl; simp at h3; omega
    have hnk : n ≤ k := by rcases hb with hb | hb; exact absurd hb hne; omega
    rcases Nat.lt_or_eq_of_le hnk with hlt | rfl
    · rw [if_pos (.inr (.inl (by omega)))]
      refine .inr ⟨n, hn1, hn2, hlen, ?_, ⟨s, by omega, hyes⟩, fun i hi m hm1 hm2 => ?_⟩
      · show _ = (if rc T s n s = true ∧ _ then _ else _)
        rw [if_pos ⟨hyes, .inl (bestN_none fun k hk => h6 k hk n hn1 hlt)⟩]
      · rcases Nat.lt_or_eq_of_le (Nat.le_of_lt_succ hi) with h' | rfl
        · exact h6 i h' m hm1 (by omega)
        · exact hno m hm1 hm2
    · have e : (if best = [] ∨ n < best.length ∨ lessS (wayG (rc T s) T n s) best = true then wayG (rc T s) T n s else best) = bestN T n (s + 1) := by
        show _ = (if rc T s n s = true ∧ (bestN T n s = [] ∨ Op.bytesLess (bs (wayG (rc T s) T n s)).toList (bs (bestN T n s)).toList = true) then wayG (rc T s) T n s else bestN T n s)
        rw [← h4]
        unfold lessS
        by_cases hl : Op.bytesLess (bs (wayG (rc T s) T n s)).toList (bs best).toList = true
        · rw [if_pos (.inr (.inr hl)), if_pos ⟨hyes, .inr hl⟩]
        · rw [if_neg (by rintro (h | h | h); exact hne h; omega; exact hl h), if_neg (by rintro ⟨_, h | h⟩; exact hne h; exact hl h)]
      rw [e]
      refine .inr ⟨n, hn1, hn2, ?_, rfl, ⟨s, by omega, hyes⟩, fun i hi m hm1 hm2 => ?_⟩
      · rcases bestN_len (T := T) (n := n) (i := s + 1) with h' | h'
        · exact absurd h' (bestN_some hn1 (Nat.lt_succ_self s) hyes)
        · exact h'
      · rcases Nat.lt_or_eq_of_le (Nat.le_of_lt_succ hi) with h' | rfl
        · exact h6 i h' m hm1 hm2
        · exact hno m hm1 hm2
theorem BestAt.last {T : Tab} {N n : Nat} {best : Str} (h : BestAt T N N best) (hn1 : 1 ≤ n) (hn2 : n ≤ N) (hno : ∀ m, 1 ≤ m → m < n → ∀ i, i < N → rc T i m i = false) (hyes : ∃ i, i < N ∧ rc T i n i = true) : best = bestN T n N := by
  obtain ⟨i, hi, hr⟩ := hyes
  rcases h with ⟨_, h⟩ | ⟨k, h1, h2, h3, h4, ⟨i0, h5, h5'⟩, h6⟩
  · rw [h i hi n hn1 hn2] at hr; cases hr
  · have e : k = n := by
      rcases Nat.lt_trichotomy k n with h | h | h
      · rw [hno k h1 h i0 h5] at h5'; cases h5'
      · exact h
      · rw [h6 i hi n hn1 h] at hr; cases hr
    rw [← e]; exact h4
/-- The rows of the ways back, as numbers. -/
def rcI (T : Tab) (f m j : Nat) : Int := if rc T f m j = true then 1 else 0
def rcRowI (T : Tab) (f N m : Nat) : List Int := (List.range N).map (rcI T f m)
def rcRowsI (T : Tab) (f N n : Nat) : Tab := (List.range n).map (rcRowI T f N)
theorem rcRowI_len (T : Tab) (f N m : Nat) : (rcRowI T f N m).length = N := by simp [rcRowI]
theorem rcRowsI_len (T : Tab) (f N n : Nat) : (rcRowsI T f N n).length = n := by simp [rcRowsI]
theorem rcRowI_at {T : Tab} {f N m i : Nat} (h : i < N) : (rcRowI T f N m).getD i 0 = rcI T f m i := by
  unfold rcRowI
  rw [List.getD_eq_getElem?_getD, List.getElem?_map, List.getElem?_range h]
  rfl
theorem rcRowsI_at {T : Tab} {f N n m : Nat} (h : m < n) : (rcRowsI T f N n).getD m [] = rcRowI T f N m := by
  unfold rcRowsI
  rw [List.getD_eq_getElem?_getD, List.getElem?_map, List.getElem?_range h]
  rfl
theorem rcRowsI_succ (T : Tab) (f N n : Nat) : rcRowsI T f N (n + 1) = rcRowsI T f N n ++ [rcRowI T f N n] := by
  unfold rcRowsI
  rw [List.range_succ, List.map_append]
  rfl
theorem rcI_ne (T : Tab) (f m j : Nat) : rcI T f m j ≠ 0 ↔ rc T f m j = true := by
  unfold rcI
  by_cases h : rc T f m j = true <;> simp [h]
theorem rcI_range (T : Tab) (f m j : Nat) : 0 ≤ rcI T f m j ∧ rcI T f m j ≤ 1 := by
  unfold rcI
  split <;> omega
/-- The greatest over some letters. -/
def mxC (g : Nat → Int) (l : List (Nat × Nat)) : Int := l.foldl (fun s p => max s (g p.2)) 0
theorem mxC_snoc (g : Nat → Int) (l : List (Nat × Nat)) (p : Nat × Nat) : mxC g (l ++ [p]) = max (mxC g l) (g p.2) := by
  unfold mxC
  rw [List.foldl_append]
  rfl
theorem mx_rc (T : Tab) (f m : Nat) : ∀ l : List (Nat × Nat), mxC (rcI T f m) l = if (l.any fun p => rc T f m p.2) = true then 1 else 0 := by
  intro l
  have : ∀ (l : List (Nat × Nat)) (a : Int), (a = 0 ∨ a = 1) → l.foldl (fun s p => max s (rcI T f m p.2)) a = if (a = 1 ∨ (l.any fun p => rc T f m p.2) = true) then 1 else 0 := by
    intro l
    induction l with
    | nil => rintro a (rfl | rfl) <;> simp
    | cons p l ih =>
      intro a ha
      have e : max a (rcI T f m p.2) = if (a = 1 ∨ rc T f m p.2 = true) then 1 else 0 := by
        unfold rcI
        cases rc T f m p.2 <;> rcases ha with rfl | rfl <;> decide
      rw [List.foldl_cons, e, ih _ (by split; exact .inr rfl; exact .inl rfl), List.any_cons]
      cases rc T f m p.2 <;> cases (l.any fun p => rc T f m p.2) <;> rcases ha with rfl | rfl <;> rfl
  rw [show mxC (rcI T f m) l = _ from this l 0 (.inl rfl)]
  have h01 : ¬ (0 : Int) = 1 := by decide
  simp only [h01, false_or]
end Go.Proofs.Ytnamafakjkcmjaa
