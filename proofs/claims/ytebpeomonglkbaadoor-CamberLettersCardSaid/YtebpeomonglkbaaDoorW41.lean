/-
  The word of a path between its ends is the same from behind; the matrix of the word. No walk stands in this text.
-/
import Derived.Test.YtebpeomonglkbaaDoorW40
namespace Go.Proofs.YtebpeomonglkbaaDoor
open Go.RowKit Go.Sort Cam
set_option linter.unusedVariables false
set_option linter.unusedSimpArgs false

/-! Between the ends. -/
def sub (p q : List UInt8) (w : List UInt8) : List UInt8 := w.flatMap fun c => if c = 97 then p else q
theorem sub_append (p q u v : List UInt8) : sub p q (u ++ v) = sub p q u ++ sub p q v := by simp [sub, List.flatMap_append]
theorem sub_cat (p q u v : List UInt8) : sub p q (catL u v) = catL (sub p q u) (sub p q v) := sub_append p q u v
theorem sub_cons (p q : List UInt8) (c : UInt8) (v : List UInt8) : sub p q (c :: v) = (if c = 97 then p else q) ++ sub p q v := by simp [sub]
def Mid (w : List UInt8) : Prop := ∃ P : List UInt8, w = 97 :: (P ++ [98]) ∧ P.reverse = P
theorem rev_second : ∀ P : List UInt8, 97 :: (sub [97] [97, 98] P).reverse = sub [97] [97, 98] P.reverse ++ [97]
  | [] => rfl
  | c :: P => by
    have ih := rev_second P
    rw [sub_cons, List.reverse_append, List.reverse_cons, sub_append, ← List.cons_append, ih, List.append_assoc, List.append_assoc]
    congr 1
    by_cases hc : c = 97 <;> simp [sub, hc]
theorem rev_first : ∀ P : List UInt8, (sub [97, 98] [98] P).reverse ++ [98] = 98 :: sub [97, 98] [98] P.reverse
  | [] => rfl
  | c :: P => by
    have ih := rev_first P
    rw [sub_cons, List.reverse_append, List.reverse_cons, sub_append, ← List.cons_append, ← ih, List.append_assoc, List.append_assoc]
    congr 1
    by_cases hc : c = 97 <;> simp [sub, hc]
theorem Mid.second {w : List UInt8} (h : Mid w) : Mid (sub [97] [97, 98] w) := by
  obtain ⟨P, rfl, hP⟩ := h
  refine ⟨sub [97] [97, 98] P ++ [97], ?_, ?_⟩
  · rw [sub_cons, sub_append]; simp [sub]
  · have := rev_second P
    rw [hP] at this
    rw [List.reverse_append, ← this]; rfl
theorem Mid.first {w : List UInt8} (h : Mid w) : Mid (sub [97, 98] [98] w) := by
  obtain ⟨P, rfl, hP⟩ := h
  refine ⟨98 :: sub [97, 98] [98] P, ?_, ?_⟩
  · rw [sub_cons, sub_append]; simp [sub]
  · have := rev_first P
    rw [hP] at this
    rw [List.reverse_cons, this]
theorem mid_grow : ∀ (l : List UInt8) (n : Bool), Mid ((grG catL l n [97] [98]).1 ++ (grG catL l n [97] [98]).2)
  | [], n => ⟨[], rfl, rfl⟩
  | c :: l, n => by
    simp only [grG]
    split
    · have h := grG_map (sub [97] [97, 98]) (sub_cat _ _) l (flipN n c) [97] [98]
      have e1 : sub [97] [97, 98] [97] = [97] := rfl
      have e2 : sub [97] [97, 98] [98] = catL [97] [98] := rfl
      rw [e1, e2] at h
      rw [h, ← sub_append]
      exact (mid_grow l _).second
    · have h := grG_map (sub [97, 98] [98]) (sub_cat _ _) l (flipN n c) [97] [98]
      have e1 : sub [97, 98] [98] [97] = catL [97] [98] := rfl
      have e2 : sub [97, 98] [98] [98] = [98] := rfl
      rw [e1, e2] at h
      rw [h, ← sub_append]
      exact (mid_grow l _).first
theorem mid_word (l : List UInt8) : Mid (wordsL l) := mid_grow l true
theorem Mid.says {w : List UInt8} (h : Mid w) : 2 ≤ w.length ∧ w[0]? = some 97 ∧ w[w.length - 1]? = some 98 ∧ ∀ i, 1 ≤ i → i + 1 < w.length → w[i]? = w[w.length - 1 - i]? := by
  obtain ⟨P, rfl, hP⟩ := h
  have hl : (97 :: (P ++ [98])).length = P.length + 2 := by simp
  rw [hl]
  refine ⟨by omega, rfl, ?_, ?_⟩
  · rw [show P.length + 2 - 1 = P.length + 1 by omega, List.getElem?_cons_succ, List.getElem?_append_right (by omega)]; simp
  · intro i h1 h2
    obtain ⟨i, rfl⟩ : ∃ m, i = m + 1 := ⟨i - 1, by omega⟩
    have hi : i < P.length := by omega
    rw [show P.length + 2 - 1 - (i + 1) = (P.length - 1 - i) + 1 by omega, List.getElem?_cons_succ, List.getElem?_cons_succ, List.getElem?_append_left hi, List.getElem?_append_left (by omega)]
    have := List.getElem?_reverse (l := P) (i := i) hi
    rw [hP] at this
    exact this

/-! Matrices. -/
def M4.mul (m n : M4) : M4 := ⟨m.a * n.a + m.b * n.c, m.a * n.b + m.b * n.d, m.c * n.a + m.d * n.c, m.c * n.b + m.d * n.d⟩
def M4.one : M4 := ⟨1, 0, 0, 1⟩
def matOf (c : UInt8) : M4 := if c = 97 then ⟨2, 1, 1, 1⟩ else ⟨5, 2, 2, 1⟩
theorem M4.ext' {m n : M4} (h1 : m.a = n.a) (h2 : m.b = n.b) (h3 : m.c = n.c) (h4 : m.d = n.d) : m = n := by
  cases m; cases n; simp at *; exact ⟨h1, h2, h3, h4⟩
theorem M4.mul_assoc (m n k : M4) : (m.mul n).mul k = m.mul (n.mul k) := by
  apply M4.ext' <;> simp only [M4.mul] <;> grind
theorem M4.mul_one (m : M4) : m.mul M4.one = m := by apply M4.ext' <;> simp only [M4.mul, M4.one] <;> omega
theorem M4.one_mul (m : M4) : M4.one.mul m = m := by apply M4.ext' <;> simp only [M4.mul, M4.one] <;> omega
theorem M4.step_eq (m : M4) (c : UInt8) : m.step c = m.mul (matOf c) := by
  unfold M4.step matOf
  by_cases hc : c = 97 <;> simp only [hc, if_true, if_false] <;> apply M4.ext' <;> simp only [M4.mul] <;> omega
/-- The product over a word, without a bound. -/
def matG (l : List UInt8) : M4 := l.foldl M4.step M4.one
theorem foldl_step (l : List UInt8) : ∀ m : M4, l.foldl M4.step m = m.mul (matG l) := by
  induction l with
  | nil => intro m; exact (M4.mul_one m).symm
  | cons c l ih =>
    intro m
    unfold matG
    rw [List.foldl_cons, List.foldl_cons, ih, ih (M4.one.step c), M4.step_eq, M4.step_eq, M4.one_mul, M4.mul_assoc]
theorem matG_append (u v : List UInt8) : matG (catL u v) = (matG u).mul (matG v) := by
  show (u ++ v).foldl M4.step M4.one = _
  rw [List.foldl_append, foldl_step]; rfl
def M4.det (m : M4) : Int := m.a * m.d - m.b * m.c
theorem det_mul (m n : M4) : (m.mul n).det = m.det * n.det := by simp only [M4.mul, M4.det]; grind
theorem det_of (c : UInt8) : (matOf c).det = 1 := by unfold matOf; split <;> rfl
theorem det_matG (l : List UInt8) : (matG l).det = 1 := by
  induction l with
  | nil => rfl
  | cons c l ih =>
    have : matG (c :: l) = (matOf c).mul (matG l) := by
      unfold matG
      rw [List.foldl_cons, foldl_step, M4.step_eq, M4.one_mul]; rfl
    rw [this, det_mul, det_of, ih]; rfl
/-- Not less than nothing, and something on the diagonal. -/
def M4.pos (m : M4) : Prop := 1 ≤ m.a ∧ 0 ≤ m.b ∧ 0 ≤ m.c ∧ 1 ≤ m.d
def M4.le (m n : M4) : Prop := m.a ≤ n.a ∧ m.b ≤ n.b ∧ m.c ≤ n.c ∧ m.d ≤ n.d
theorem M4.le_refl (m : M4) : m.le m := ⟨Int.le_refl _, Int.le_refl _, Int.le_refl _, Int.le_refl _⟩
theorem M4.step_pos {m : M4} (h : m.pos) (c : UInt8) : (m.step c).pos ∧ m.le (m.step c) := by
  unfold M4.pos at h
  unfold M4.step
  split <;> (unfold M4.pos M4.le; simp only; omega)
theorem foldl_pos : ∀ (l : List UInt8) (m : M4), m.pos → (l.foldl M4.step m).pos ∧ m.le (l.foldl M4.step m)
  | [], m, h => ⟨h, m.le_refl⟩
  | c :: l, m, h => by
    obtain ⟨h1, h2⟩ := M4.step_pos h c
    obtain ⟨h3, h4⟩ := foldl_pos l _ h1
    refine ⟨h3, ?_⟩
    unfold M4.le at *
    rw [List.foldl_cons]
    omega
theorem matG_pos (l : List UInt8) : (matG l).pos := (foldl_pos l _ (by unfold M4.pos M4.one; simp)).1
theorem big_of_le {m n : M4} (h : m.le n) (hb : m.big) : n.big := by unfold M4.le at h; unfold M4.big at *; omega
/-- What the program computes: the product, if its numbers are not too great. -/
theorem matF_eq : ∀ (l : List UInt8) (m : M4), m.pos → matF l m = if (l.foldl M4.step m).big then none else some (l.foldl M4.step m)
  | [], m, h => rfl
  | c :: l, m, h => by
    rw [matF, List.foldl_cons]
    obtain ⟨h1, h2⟩ := M4.step_pos h c
    by_cases hb : m.big
    · have := big_of_le (foldl_pos (c :: l) m h).2 hb
      rw [List.foldl_cons] at this
      rw [if_pos hb, if_pos this]
    · rw [if_neg hb, matF_eq l _ h1]
theorem matF_one (l : List UInt8) : matF l ⟨1, 0, 0, 1⟩ = if (matG l).big then none else some (matG l) :=
  matF_eq l ⟨1, 0, 0, 1⟩ (by unfold M4.pos; simp)

/-! Cohn's matrices: the trace is three times the upper right number. -/
structure Cohn (p q : M4) (x y z : Int) : Prop where
  dp : p.det = 1
  dq : q.det = 1
  tp : p.a + p.d = 3 * x
  tq : q.a + q.d = 3 * y
  up : p.b = x
  uq : q.b = y
  tr : (p.mul q).a + (p.mul q).d = 3 * z
  ur : (p.mul q).b = z
theorem cohn_start : Cohn (matG [97]) (matG [98]) 1 2 5 := by constructor <;> decide
theorem Cohn.second {p q : M4} {x y z : Int} (h : Cohn p q x y z) : Cohn p (p.mul q) x z (3 * x * z - y) := by
  obtain ⟨dp, dq, tp, tq, up, uq, tr, ur⟩ := h
  refine ⟨dp, by rw [det_mul, dp, dq]; rfl, tp, tr, up, ur, ?_, ?_⟩
  · simp only [M4.mul, M4.det] at *; grind
  · simp only [M4.mul, M4.det] at *; grind
theorem Cohn.first {p q : M4} {x y z : Int} (h : Cohn p q x y z) : Cohn (p.mul q) q z y (3 * y * z - x) := by
  obtain ⟨dp, dq, tp, tq, up, uq, tr, ur⟩ := h
  refine ⟨by rw [det_mul, dp, dq]; rfl, dq, tr, tq, ur, uq, ?_, ?_⟩
  · simp only [M4.mul, M4.det] at *; grind
  · simp only [M4.mul, M4.det] at *; grind
theorem cohn_grow : ∀ (l : List UInt8) (n : Bool) (p q : M4) (x y z X Y Z : Int), (l.all fun c => c == 76 || c == 82) = true → Cohn p q (if n then x else y) (if n then y else x) z → followF l (x, y, z) = some (X, Y, Z) →
    ∃ A B, Cohn (grG M4.mul l n p q).1 (grG M4.mul l n p q).2 A B Z
  | [], n, p, q, x, y, z, X, Y, Z, hl, h, e => by
    simp only [followF, Option.some.injEq, Prod.mk.injEq] at e
    obtain ⟨rfl, rfl, rfl⟩ := e
    exact ⟨_, _, h⟩
  | c :: l, n, p, q, x, y, z, X, Y, Z, hl, h, e => by
    rw [List.all_cons, Bool.and_eq_true] at hl
    obtain ⟨hc, hl⟩ := hl
    have hc : c = 76 ∨ c = 82 := by simpa using hc
    rw [followF] at e
    split at e
    · rcases hc with rfl | rfl
      · rw [show stepF 76 (x, y, z) = (y, z, 3 * y * z - x) by simp [stepF, exF]] at e
        cases n
        · have k : Cohn p (p.mul q) y z (3 * y * z - x) := h.second
          exact cohn_grow l true _ _ _ _ _ _ _ _ hl k e
        · have k : Cohn (p.mul q) q z y (3 * y * z - x) := h.first
          exact cohn_grow l false _ _ _ _ _ _ _ _ hl k e
      · rw [show stepF 82 (x, y, z) = (x, z, 3 * x * z - y) by simp [stepF, exF]] at e
        cases n
        · have k : Cohn (p.mul q) q z x (3 * x * z - y) := h.first
          exact cohn_grow l false _ _ _ _ _ _ _ _ hl k e
        · have k : Cohn p (p.mul q) x z (3 * x * z - y) := h.second
          exact cohn_grow l true _ _ _ _ _ _ _ _ hl k e
    · cases e
/-- The matrix of the word of a path. -/
theorem cohn_word {t : ByteArray} {x y z : Int} (hp : isPathB t = true) (ho : followO t = some (x, y, z)) : (matG (wordsL t.data.toList)).a + (matG (wordsL t.data.toList)).d = 3 * z ∧ (matG (wordsL t.data.toList)).b = z := by
  unfold isPathB at hp
  rw [Bool.and_eq_true] at hp
  have h := grG_map matG matG_append t.data.toList true [97] [98]
  obtain ⟨A, B, k⟩ := cohn_grow t.data.toList true _ _ 1 2 5 x y z hp.2 cohn_start ho
  rw [h] at k
  show (matG (catL _ _)).a + (matG (catL _ _)).d = _ ∧ (matG (catL _ _)).b = _
  rw [matG_append]
  exact ⟨k.tr, k.ur⟩
/-- None of its numbers is too great. -/
theorem cohn_small {m : M4} {z : Int} (hp : m.pos) (hd : m.det = 1) (h1 : m.a + m.d = 3 * z) (h2 : m.b = z) (hz : 1 ≤ z) (h4 : z ≤ 1000000000) : ¬ m.big := by
  obtain ⟨a, b, c, d⟩ := m
  simp only [M4.pos, M4.det, M4.big] at *
  subst h2
  have hc : c ≤ 3 * b := by
    refine Int.le_of_mul_le_mul_right (a := b) ?_ (by omega)
    have h5 : 0 ≤ (a - d) * (a - d) := by
      rcases Int.le_total 0 (a - d) with h | h
      · exact Int.mul_nonneg h h
      · have := Int.mul_nonneg (show 0 ≤ d - a by omega) (show 0 ≤ d - a by omega)
        have e : (d - a) * (d - a) = (a - d) * (a - d) := by grind
        omega
    have h6 : (a + d) * (a + d) = (a - d) * (a - d) + 4 * (a * d) := by grind
    rw [h1] at h6
    have h7 : 3 * b * (3 * b) = 9 * (b * b) := by grind
    have h8 : 3 * b * b = 3 * (b * b) := by grind
    have h9 : c * b = b * c := by grind
    have := Int.mul_nonneg (show 0 ≤ b by omega) (show 0 ≤ b by omega)
    omega
  omega
end Go.Proofs.YtebpeomonglkbaaDoor
