/-
  Several texts in one: XA5, XA6, XA7.
-/
import Derived.Test.YtnamafakjkcmjaaT10
set_option linter.unusedVariables false
set_option linter.unusedSimpArgs false
namespace Go.Proofs.Ytnamafakjkcmjaa
open Go
set_option linter.unusedVariables false

theorem pigeon : ∀ (N : Nat) (s : Nat → Nat), (∀ k, k ≤ N → s k < N) → ∃ a b, a < b ∧ b ≤ N ∧ s a = s b
  | 0, s, h => absurd (h 0 (Nat.le_refl _)) (Nat.not_lt_zero _)
  | N + 1, s, h => by
    by_cases hx : ∃ a, a ≤ N ∧ s a = s (N + 1)
    · obtain ⟨a, ha, e⟩ := hx
      exact ⟨a, N + 1, by omega, Nat.le_refl _, e⟩
    · have hv := h (N + 1) (Nat.le_refl _)
      obtain ⟨a, b, h1, h2, h3⟩ := pigeon N (fun k => if s k = N then s (N + 1) else s k) (fun k hk => by
        have hk1 := h k (by omega)
        have hk2 : s k ≠ s (N + 1) := fun e => hx ⟨k, hk, e⟩
        split
        · omega
        · omega)
      refine ⟨a, b, h1, by omega, ?_⟩
      have ha : s a ≠ s (N + 1) := fun e => hx ⟨a, by omega, e⟩
      have hb : s b ≠ s (N + 1) := fun e => hx ⟨b, by omega, e⟩
      split at h3 <;> split at h3 <;> omega
theorem rc_path {T : Tab} {f : Nat} : ∀ {k j : Nat}, rc T f k j = true ↔ PathN T k j f
  | 0, j => by
    show (j == f) = true ↔ j = f
    simp
  | k + 1, j => by
    show ((stp T j).any fun p => rc T f k p.2) = true ↔ ∃ c i, (c, i) ∈ stp T j ∧ PathN T k i f
    rw [List.any_eq_true]
    constructor
    · rintro ⟨⟨c, i⟩, h1, h2⟩; exact ⟨c, i, h1, rc_path.1 h2⟩
    · rintro ⟨c, i, h1, h2⟩; exact ⟨(c, i), h1, rc_path.2 h2⟩
theorem PathN.append {T : Tab} : ∀ {a b i j k : Nat}, PathN T a i j → PathN T b j k → PathN T (a + b) i k
  | 0, b, i, j, k, h, h' => by
    obtain rfl : i = j := h
    rw [Nat.zero_add]; exact h'
  | a + 1, b, i, j, k, ⟨c, x, h1, h2⟩, h' => by
    rw [Nat.add_right_comm]
    exact ⟨c, x, h1, PathN.append h2 h'⟩
/-- One state after another, each with a way on that never ends. -/
theorem walk_on {T : Tab} {n q : Nat} (hT : TabOk T n q) : ∀ (m : Nat) (i : Nat), i < n → (∀ k, can T k i = true) → ∃ s : Nat → Nat, s 0 = i ∧ (∀ k, k ≤ m → s k < n) ∧ ∀ k, k < m → ∃ c, (c, s (k + 1)) ∈ stp T (s k)
  | 0, i, hi, h => ⟨fun _ => i, rfl, fun k _ => hi, fun k hk => absurd hk (Nat.not_lt_zero _)⟩
  | m + 1, i, hi, h => by
    obtain ⟨c, j, h1, h2⟩ := can_succ.1 (h (n + 1))
    have hj := (hT.stp hi h1).2
    obtain ⟨s, e, hs, hp⟩ := walk_on hT m j hj (fun k => can_ever hT hj h2 k)
    refine ⟨fun k => match k with | 0 => i | k + 1 => s k, rfl, fun k hk => ?_, fun k hk => ?_⟩
    · cases k with
      | zero => exact hi
      | succ k => exact hs k (by omega)
    · cases k with
      | zero => exact ⟨c, by show (c, s 0) ∈ stp T i; rw [e]; exact h1⟩
      | succ k => exact hp k (by omega)
theorem path_of {T : Tab} {s : Nat → Nat} {m : Nat} (h : ∀ k, k < m → ∃ c, (c, s (k + 1)) ∈ stp T (s k)) : ∀ (d a : Nat), a + d ≤ m → PathN T d (s a) (s (a + d))
  | 0, a, _ => rfl
  | d + 1, a, hd => by
    obtain ⟨c, hc⟩ := h a (by omega)
    refine ⟨c, s (a + 1), hc, ?_⟩
    have := path_of h d (a + 1) (by omega)
    rwa [show a + 1 + d = a + (d + 1) by omega] at this
theorem closed_way {T : Tab} {n q i : Nat} (hT : TabOk T n q) (hi : i < n) (h : ∀ k, can T k i = true) : ∃ m f, 1 ≤ m ∧ m ≤ n ∧ f < n ∧ rc T f m f = true := by
  obtain ⟨s, _, hs, hp⟩ := walk_on hT n i hi h
  obtain ⟨a, b, h1, h2, e⟩ := pigeon n s hs
  have := path_of hp (b - a) a (by omega)
  rw [show a + (b - a) = b by omega, ← e] at this
  exact ⟨b - a, s a, by omega, by omega, hs a (by omega), rc_path.2 this⟩
/-- The first one of the closed ways of a length, of those from the first states. -/
def bestN (T : Tab) (n : Nat) : Nat → Str
  | 0 => []
  | i + 1 => if rc T i n i = true ∧ (bestN T n i = [] ∨ Op.bytesLess (bs (wayG (rc T i) T n i)).toList (bs (bestN T n i)).toList = true) then wayG (rc T i) T n i else bestN T n i
theorem bestN_none {T : Tab} {n : Nat} : ∀ {i : Nat}, (∀ k, k < i → rc T k n k = false) → bestN T n i = []
  | 0, _ => rfl
  | i + 1, h => by
    show (if _ then _ else _) = _
    rw [if_neg (by rw [h i (by omega)]; simp)]
    exact bestN_none fun k hk => h k (by omega)
theorem wayG_len {P : Nat → Nat → Bool} {T : Tab} (hP : ∀ m i, P (m + 1) i = true → ((stp T i).any fun p => P m p.2) = true) : ∀ (m i : Nat), P m i = true → (wayG P T m i).length = m
  | 0, _, _ => rfl
  | m + 1, i, h => by
    obtain ⟨⟨c, j⟩, h1, h2⟩ := List.any_eq_true.1 (hP m i h)
    obtain ⟨c', j', e, _, h4⟩ := firstG_some (p := P m) ⟨c, j, h1, h2⟩
    rw [wayG_succ e, List.length_cons, wayG_len hP m j' h4]
theorem rc_len {T : Tab} {f n i : Nat} (h : rc T f n i = true) : (wayG (rc T f) T n i).length = n := wayG_len (fun m i h => h) n i h
theorem bestN_len {T : Tab} {n : Nat} : ∀ {i : Nat}, bestN T n i = [] ∨ (bestN T n i).length = n
  | 0 => .inl rfl
  | i + 1 => by
    unfold bestN
    split
    · rename_i h; exact .inr (rc_len h.1)
    · exact bestN_len
theorem bestN_some {T : Tab} {n : Nat} (hn : 1 ≤ n) : ∀ {i k : Nat}, k < i → rc T k n k = true → bestN T n i ≠ []
  | 0, k, hk, _ => absurd hk (Nat.not_lt_zero _)
  | i + 1, k, hk, h => by
    unfold bestN
    split
    · rename_i h1
      intro e
      have := rc_len h1.1
      rw [e] at this
      simp at this; omega
    · rename_i h1
      by_cases e : k = i
      · subst e
        intro hb
        exact h1 ⟨h, .inl hb⟩
      · exact bestN_some hn (by omega) h
end Go.Proofs.Ytnamafakjkcmjaa

namespace Go.Proofs.Ytnamafakjkcmjaa
open Go
set_option linter.unusedVariables false

/-- By letters between which stand states below k only, and more. -/
def tr (T : Tab) : Nat → Nat → Nat → Prop
  | 0, a, b => ∃ c, (c, b) ∈ stp T a
  | k + 1, a, b => tr T k a b ∨ (tr T k a k ∧ tr T k k b)
theorem tr_join {T : Tab} : ∀ {k x a b : Nat}, x < k → tr T k a x → tr T k x b → tr T k a b
  | 0, x, a, b, h, _, _ => absurd h (Nat.not_lt_zero _)
  | k + 1, x, a, b, h, h1, h2 => by
    by_cases e : x = k
    · subst e
      have ha : tr T x a x := by rcases h1 with h1 | h1; exact h1; exact h1.1
      have hb : tr T x x b := by rcases h2 with h2 | h2; exact h2; exact h2.2
      exact .inr ⟨ha, hb⟩
    · have hx : x < k := by omega
      rcases h1 with h1 | ⟨h1, h1'⟩ <;> rcases h2 with h2 | ⟨h2, h2'⟩
      · exact .inl (tr_join hx h1 h2)
      · exact .inr ⟨tr_join hx h1 h2, h2'⟩
      · exact .inr ⟨h1, tr_join hx h1' h2⟩
      · exact .inr ⟨h1, h2'⟩
theorem tr_edge {T : Tab} {a b : Nat} (h : ∃ c, (c, b) ∈ stp T a) : ∀ k, tr T k a b
  | 0 => h
  | k + 1 => .inl (tr_edge h k)
theorem tr_path {T : Tab} {n q : Nat} (hT : TabOk T n q) : ∀ {m a b : Nat}, a < n → PathN T (m + 1) a b → tr T n a b
  | 0, a, b, ha, ⟨c, x, h1, h2⟩ => by
    obtain rfl : x = b := h2
    exact tr_edge ⟨c, h1⟩ n
  | m + 1, a, b, ha, ⟨c, x, h1, h2⟩ => tr_join (hT.stp ha h1).2 (tr_edge ⟨c, h1⟩ n) (tr_path hT (hT.stp ha h1).2 h2)
/-- How far the threefold loop is. -/
structure Ws (T : Tab) (N k i j : Nat) (M : Nat → Nat → Bool) : Prop where
  sound : ∀ a b, a < N → b < N → M a b = true → ∃ m, PathN T (m + 1) a b
  base : ∀ a b, a < N → b < N → tr T k a b → M a b = true
  more : ∀ a b, a < N → b < N → (a < i ∨ (a = i ∧ b < j)) → tr T (k + 1) a b → M a b = true
def edgeM (T : Tab) : Nat → Nat → Bool := fun a b => (stp T a).any fun p => p.2 == b
theorem edge_iff {T : Tab} {a b : Nat} : edgeM T a b = true ↔ ∃ c, (c, b) ∈ stp T a := by
  unfold edgeM
  rw [List.any_eq_true]
  constructor
  · rintro ⟨⟨c, x⟩, h1, h2⟩
    obtain rfl : x = b := by simpa using h2
    exact ⟨c, h1⟩
  · rintro ⟨c, h⟩; exact ⟨(c, b), h, by simp⟩
theorem Ws.start (T : Tab) (N : Nat) : Ws T N 0 0 0 (edgeM T) :=
  ⟨fun a b _ _ h => by obtain ⟨c, hc⟩ := edge_iff.1 h; exact ⟨0, c, b, hc, rfl⟩, fun a b _ _ h => edge_iff.2 h, fun a b _ _ h => by omega⟩
def wsM (M : Nat → Nat → Bool) (k i j : Nat) (u : Bool) : Nat → Nat → Bool := fun a b => if a = i ∧ b = j then u else M a b
theorem Ws.cell {T : Tab} {N k i j : Nat} {M : Nat → Nat → Bool} (h : Ws T N k i j M) (hk : k < N) (hi : i < N) (hj : j < N) {u : Bool} (hu : u = (M i j || (M i k && M k j))) : Ws T N k i (j + 1) (fun a b => if a = i ∧ b = j then u else M a b) := by
  have hle : ∀ a b, M a b = true → (if a = i ∧ b = j then u else M a b) = true := fun a b hm => by
    by_cases e : a = i ∧ b = j
    · rw [if_pos e, hu, ← e.1, ← e.2, hm]; rfl
    · rw [if_neg e]; exact hm
  refine ⟨fun a b ha hb hm => ?_, fun a b ha hb ht => hle _ _ (h.base a b ha hb ht), fun a b ha hb hab ht => ?_⟩
  · by_cases e : a = i ∧ b = j
    · rw [if_pos e, hu] at hm
      obtain ⟨rfl, rfl⟩ := e
      cases h1 : M a b with
      | true => exact h.sound a b ha hb h1
      | false =>
        rw [h1, Bool.false_or, Bool.and_eq_true] at hm
        obtain ⟨x, hx⟩ := h.sound a k ha hk hm.1
        obtain ⟨y, hy⟩ := h.sound k b hk hb hm.2
        exact ⟨x + 1 + y, PathN.append (a := x + 1) (b := y + 1) hx hy⟩
    · rw [if_neg e] at hm
      exact h.sound a b ha hb hm
  · by_cases e : a = i ∧ b = j
    · rw [if_pos e, hu]
      obtain ⟨rfl, rfl⟩ := e
      rcases ht with ht | ⟨ht1, ht2⟩
      · rw [h.base a b ha hb ht]; rfl
      · rw [h.base a k ha hk ht1, h.base k b hk hb ht2]; simp
    · rw [if_neg e]
      exact h.more a b ha hb (by omega) ht
theorem Ws.row {T : Tab} {N k i : Nat} {M : Nat → Nat → Bool} (h : Ws T N k i N M) : Ws T N k (i + 1) 0 M := ⟨h.sound, h.base, fun a b ha hb hab ht => h.more a b ha hb (by omega) ht⟩
theorem Ws.round {T : Tab} {N k : Nat} {M : Nat → Nat → Bool} (h : Ws T N k N 0 M) : Ws T N (k + 1) 0 0 M := ⟨h.sound, fun a b ha hb ht => h.more a b ha hb (.inl ha) ht, fun a b ha hb hab ht => by omega⟩
/-- The states to which a state leads by at least one letter. -/
def LeadOk (T : Tab) (N : Nat) (M : Nat → Nat → Bool) : Prop := ∀ a b, a < N → b < N → (M a b = true ↔ ∃ m, PathN T (m + 1) a b)
theorem Ws.done {T : Tab} {N q : Nat} {M : Nat → Nat → Bool} (hT : TabOk T N q) (h : Ws T N N 0 0 M) : LeadOk T N M :=
  fun a b ha hb => ⟨h.sound a b ha hb, fun ⟨_, hp⟩ => h.base a b ha hb (tr_path hT ha hp)⟩
theorem LeadOk.trans {T : Tab} {N : Nat} {M : Nat → Nat → Bool} (h : LeadOk T N M) {a b c : Nat} (ha : a < N) (hb : b < N) (hc : c < N) (h1 : M a b = true) (h2 : M b c = true) : M a c = true := by
  obtain ⟨x, hx⟩ := (h a b ha hb).1 h1
  obtain ⟨y, hy⟩ := (h b c hb hc).1 h2
  exact (h a c ha hc).2 ⟨x + 1 + y, PathN.append (a := x + 1) (b := y + 1) hx hy⟩
end Go.Proofs.Ytnamafakjkcmjaa

namespace Go.Proofs.Ytnamafakjkcmjaa
open Go
set_option linter.unusedVariables false

def foldC (g : Nat → Int) (p : Nat → Bool) : Nat → Int
  | 0 => 0
  | j + 1 => if p j then max (foldC g p j) (g j) else foldC g p j
theorem foldC_congr {g g' : Nat → Int} {p : Nat → Bool} : ∀ {j : Nat}, (∀ k, k < j → p k = true → g k = g' k) → foldC g p j = foldC g' p j
  | 0, _ => rfl
  | j + 1, h => by
    unfold foldC
    rw [foldC_congr (g' := g') fun k hk hp => h k (by omega) hp]
    by_cases e : p j = true
    · rw [if_pos e, if_pos e, h j (by omega) e]
    · rw [if_neg e, if_neg e]
theorem foldC_bound {g : Nat → Int} {p : Nat → Bool} {B : Int} (hB : 0 ≤ B) : ∀ {j : Nat}, (∀ k, k < j → p k = true → 0 ≤ g k ∧ g k ≤ B) → 0 ≤ foldC g p j ∧ foldC g p j ≤ B
  | 0, _ => ⟨Int.le_refl _, hB⟩
  | j + 1, h => by
    unfold foldC
    have ih := foldC_bound hB (j := j) fun k hk hp => h k (by omega) hp
    by_cases e : p j = true
    · rw [if_pos e]; have := h j (by omega) e; omega
    · rw [if_neg e]; exact ih
def chF (M : Nat → Nat → Bool) (R : Nat → Bool) (N : Nat) : Nat → Nat → Int
  | 0, _ => 0
  | f + 1, i => foldC (chF M R N f) (fun j => M i j && !M j i) N + if R i then 1 else 0
def rkC (M : Nat → Nat → Bool) (N i : Nat) : Nat := (List.range N).countP fun j => (j == i) || M i j
theorem countP_strict {α : Type} {p q : α → Bool} : ∀ {l : List α}, (∀ x ∈ l, p x = true → q x = true) → (∃ x ∈ l, q x = true ∧ p x = false) → l.countP p < l.countP q
  | [], _, ⟨x, hx, _⟩ => by cases hx
  | a :: l, h, ⟨x, hx, h1, h2⟩ => by
    rw [List.countP_cons, List.countP_cons]
    have hl := List.countP_mono_left (p := p) (q := q) (l := l) fun y hy => h y (List.mem_cons_of_mem _ hy)
    rcases List.mem_cons.1 hx with rfl | hx
    · rw [h1, h2]; simp; omega
    · have := countP_strict (fun y hy => h y (List.mem_cons_of_mem _ hy)) ⟨x, hx, h1, h2⟩
      have ha := h a (List.mem_cons_self ..)
      cases hp : p a with
      | false => simp; omega
      | true => rw [ha hp]; simp; omega
theorem rk_lt {M : Nat → Nat → Bool} {N : Nat} (hM : ∀ a b c, a < N → b < N → c < N → M a b = true → M b c = true → M a c = true) {i j : Nat} (hi : i < N) (hj : j < N) (h1 : M i j = true) (h2 : M j i = false) : rkC M N j < rkC M N i := by
  refine countP_strict (fun x hx h => ?_) ⟨i, List.mem_range.2 hi, by simp, ?_⟩
  · have hx := List.mem_range.1 hx
    simp only [Bool.or_eq_true, beq_iff_eq] at h ⊢
    rcases h with rfl | h
    · exact .inr h1
    · exact .inr (hM i j x hi hj hx h1 h)
  · have : (i == j) = false := by
      simp only [beq_eq_false_iff_ne]
      rintro rfl
      rw [h1] at h2; cases h2
    rw [this, h2]; rfl
theorem rk_pos {M : Nat → Nat → Bool} {N i : Nat} (hi : i < N) : 0 < rkC M N i := by
  unfold rkC
  rw [List.countP_pos_iff]
  exact ⟨i, List.mem_range.2 hi, by simp⟩
theorem rk_le (M : Nat → Nat → Bool) (N i : Nat) : rkC M N i ≤ N := by
  unfold rkC
  exact Nat.le_trans List.countP_le_length (by simp)
theorem chF_same {M : Nat → Nat → Bool} {R : Nat → Bool} {N : Nat} (hM : ∀ a b c, a < N → b < N → c < N → M a b = true → M b c = true → M a c = true) : ∀ (f f' i : Nat), i < N → rkC M N i ≤ f → rkC M N i ≤ f' → chF M R N f i = chF M R N f' i
  | 0, f', i, hi, h, _ => absurd (rk_pos (M := M) hi) (by omega)
  | f + 1, 0, i, hi, _, h => absurd (rk_pos (M := M) hi) (by omega)
  | f + 1, f' + 1, i, hi, h, h' => by
    unfold chF
    rw [foldC_congr (g' := chF M R N f') fun k hk hp => ?_]
    simp only [Bool.and_eq_true, Bool.not_eq_true'] at hp
    have := rk_lt hM hi hk hp.1 hp.2
    exact chF_same hM f f' k hk (by omega) (by omega)
/-- The greatest number of circles on a way from a state on. -/
def chC (M : Nat → Nat → Bool) (R : Nat → Bool) (N i : Nat) : Int := chF M R N N i
theorem ch_eq {M : Nat → Nat → Bool} {R : Nat → Bool} {N : Nat} (hM : ∀ a b c, a < N → b < N → c < N → M a b = true → M b c = true → M a c = true) {i : Nat} (hi : i < N) :
    chC M R N i = foldC (chC M R N) (fun j => M i j && !M j i) N + if R i then 1 else 0 := by
  unfold chC
  rw [chF_same hM N (N + 1) i hi (rk_le M N i) (Nat.le_succ_of_le (rk_le M N i))]
  rfl
theorem ch_bound {M : Nat → Nat → Bool} {R : Nat → Bool} {N : Nat} (hM : ∀ a b c, a < N → b < N → c < N → M a b = true → M b c = true → M a c = true) : ∀ (f i : Nat), i < N → rkC M N i ≤ f → 0 ≤ chC M R N i ∧ chC M R N i ≤ rkC M N i
  | 0, i, hi, h => absurd (rk_pos (M := M) hi) (by omega)
  | f + 1, i, hi, h => by
    rw [ch_eq hM hi]
    have hp := rk_pos (M := M) hi
    have := foldC_bound (g := chC M R N) (p := fun j => M i j && !M j i) (B := (rkC M N i : Int) - 1) (by omega) (j := N) fun k hk hk2 => by
      simp only [Bool.and_eq_true, Bool.not_eq_true'] at hk2
      have h1 := rk_lt hM hi hk hk2.1 hk2.2
      have h2 := ch_bound (R := R) hM f k hk (by omega)
      omega
    split <;> omega
theorem ch_small {M : Nat → Nat → Bool} {R : Nat → Bool} {N : Nat} (hM : ∀ a b c, a < N → b < N → c < N → M a b = true → M b c = true → M a c = true) {i : Nat} (hi : i < N) : 0 ≤ chC M R N i ∧ chC M R N i ≤ N := by
  have h1 := ch_bound (R := R) hM N i hi (rk_le M N i)
  have h2 := rk_le M N i
  omega
end Go.Proofs.Ytnamafakjkcmjaa
