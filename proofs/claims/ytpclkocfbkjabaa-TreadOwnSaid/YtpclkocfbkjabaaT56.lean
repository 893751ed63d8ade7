/-
  The laws' tame.
-/
import Derived.Test.YtpclkocfbkjabaaT55
namespace Go.Proofs.Ytpclkocfbkjabaa
open Go.RowKit Go.Shelf
set_option linter.unusedVariables false
set_option linter.unusedSimpArgs false

def OutOk (q k : Nat) (w : World) (v : Value) : Prop := ∃ L, StrsAt w v L ∧ (L.Pairwise fun a b => sb a < sb b) ∧ (∀ x ∈ L, 1 ≤ x.size ∧ x.size ≤ 5 ∧ lettB q (sb x) = true) ∧ L.length ≤ k ∧ (L = [] → v = .slice none 0 0)
theorem OutOk.kept {q k : Nat} {w w' : World} {v : Value} (h : OutOk q k w v) (hb : Below w.heap.size w w') : OutOk q k w' v := by
  obtain ⟨L, h1, h2⟩ := h
  exact ⟨L, h1.kept hb, h2⟩
theorem OutOk.le {q k k' : Nat} {w : World} {v : Value} (h : OutOk q k w v) (hk : k ≤ k') : OutOk q k' w v := by
  obtain ⟨L, h1, h2, h3, h4, h5⟩ := h
  exact ⟨L, h1, h2, h3, by omega, h5⟩
/-- What 'tame' makes: a set. -/
def TameOk (q most : Nat) (w : World) (v : Value) : Prop := ∃ L, StrsAt w v L ∧ setB q L = true ∧ L.length ≤ most ∧ (L = [] → v = .slice none 0 0)
set_option maxRecDepth 100000 in
set_option maxHeartbeats 4000000 in
theorem tame_any (x : Int) (v : Value) (ss : List ByteArray) (most : Nat) (w : World) (hv : StrsAt w v ss) (hl : ss.length * 16 ≤ 140737488351232) (hz : ∀ s ∈ ss, s.size ≤ maxLen) (hm : most ≤ 12) :
    Calls Try.prog 37 #[.int .i64 x, v, .int .i64 most] w fun e w' => ∃ (q : Nat) (v' : Value), e = .returned (.tuple #[.int .i64 q, v']) ∧ (1 ≤ q ∧ q ≤ 3) ∧ TameOk q most w' v' ∧ Below w.heap.size w w' := by
  have MD3 := Lib.hid fun x W => mod_any x 3 W (by omega)
  have LT := Lib.hid fun s q W h h1 => letters_any s q 5 h W h1 (by omega)
  have WI := Lib.hid fun v L s W h1 h2 h3 h4 => with_any v L s W h1 h2 h3 h4
  obtain ⟨N, hN⟩ : ∃ N, N = ss.length := ⟨_, rfl⟩
  have HN := Lib.hid hN
  obtain ⟨A, c, rfl, hlc, hcm, hA⟩ := hv
  have HA := Lib.hid hA
  have HZ := Lib.hid hz
  rw [← hN] at hl hlc ⊢
  clear hN hA hz
  go_enter Try.func37, Try.ntmps37
  go_wp2_with fail
  refine (MD3.out x _).mono ?_
  rintro e w1 ⟨⟨r1, hr1, rfl⟩, rfl⟩
  go_wp2_with fail
  obtain ⟨q, hq⟩ : ∃ q, q = r1 + 1 := ⟨_, rfl⟩
  have e1 : 1 + (r1 : Int) = (q : Int) := by omega
  have hq3 : 1 ≤ q ∧ q ≤ 3 := by omega
  rw [e1]
  clear e1 hq hr1
  go_loopw [8, 9] (fun ov iv wr => ∃ k : Nat, k ≤ N ∧ k ≤ most ∧ iv = .int .i64 k ∧ Hid (OutOk q k wr ov) ∧ Hid (Below w.heap.size w wr)) (fun _ iv _ => N - (intOf iv).toNat)
  case atStart => exact ⟨0, Nat.zero_le _, Nat.zero_le _, rfl, Lib.hid ⟨[], StrsAt.nil w, by simp, fun x hx => absurd hx List.not_mem_nil, Nat.le_refl _, fun _ => rfl⟩, Lib.hid (bl_refl w)⟩
  case round =>
    obtain ⟨k, hk, hkm, rfl, HO, HB⟩ := hrel
    by_cases hlt : k < N
    · have hlt' : (k : Int) < (N : Int) := by omega
      by_cases hlm : k < most
      · have hlm' : (k : Int) < (most : Int) := by omega
        obtain ⟨g, off, rfl, hg, hc⟩ := HA.out (by have := HN.out; omega)
        have hkl : k < ss.length := by have := HN.out; omega
        have ct := (HB.out.cell (p := ⟨g, off + k, none⟩) hg).trans (hc k hkl)
        have lg := Nat.lt_of_lt_of_le hg HB.out.size
        have hsz : (ss.getD k ByteArray.empty).size ≤ maxLen := by
          rw [List.getD_eq_getElem?_getD, List.getElem?_eq_getElem hkl]
          exact HZ.out _ (List.getElem_mem hkl)
        obtain ⟨s, hs⟩ : ∃ s, s = ss.getD k ByteArray.empty := ⟨_, rfl⟩
        rw [← hs] at ct hsz
        have HSZ := Lib.hid hsz
        clear hc hs hsz
        go_wp2_with fail
        refine (LT.out s q _ hq3 HSZ.out).mono ?_
        rintro e w2 ⟨rfl, r2⟩
        have HB2 := Lib.hid (bl_then HB.out r2)
        have HO2 := Lib.hid (HO.out.kept r2)
        have htl := tm_len q 5 s
        have htt := tm_lett hq3 5 s
        obtain ⟨t, ht⟩ : ∃ t, t = tmL q 5 s := ⟨_, rfl⟩
        rw [← ht] at htl htt ⊢
        have HTT := Lib.hid htt
        clear ht htt r2
        have hbq := str_beq (bs t) ⟨#[]⟩
        by_cases he : t = []
        · have hbt : bs t = ⟨#[]⟩ := by rw [he]; rfl
          rw [hbt]
          have HO3 := Lib.hid (HO2.out.le (Nat.le_succ k))
          clear hbq htl hbt he HTT
          go_wp2_with fail
          go_roundw
          case rel => exact ⟨k + 1, by omega, by omega, by go_num, HO3, HB2⟩
          case measure => simp [intOf]; omega
        · have hb2 : ((bs t).toList == (⟨#[]⟩ : ByteArray).toList) = false := by
            rw [hbq]
            refine decide_eq_false fun h => he ?_
            exact congrArg sb h
          have hsize : 1 ≤ (bs t).size ∧ (bs t).size ≤ 5 := by
            refine ⟨?_, ?_⟩
            · rcases Nat.eq_zero_or_pos t.length with h | h
              · exact absurd (List.eq_nil_of_length_eq_zero h) he
              · exact h
            · show t.length ≤ 5
              omega
          have HSI := Lib.hid hsize
          obtain ⟨L, o1, o2, o3, o4, o5⟩ := HO2.out
          have WW := Lib.hid (WI.out _ L (bs t) w2 o1 (by omega) o2 o5)
          have O3 := Lib.hid o3
          have O4 := Lib.hid o4
          have t1 := bs_toList t
          have t2 : (⟨#[]⟩ : ByteArray).toList = [] := bs_toList []
          have t3 : List.isEmpty t = false := by cases t with | nil => exact absurd rfl he | cons a l => rfl
          clear hbq htl hsize o1 o2 o3 o4 o5 hb2
          go_wp2_with fail
          refine WW.out.mono ?_
          rintro e w3 ⟨v3, rfl, ⟨L', p1, p2, p3, p4, p5, p6, p7⟩, r3⟩
          have HO3 : Hid (OutOk q (k + 1) w3 v3) := Lib.hid ⟨L', p1, p2, fun x hx => by
            rcases p3 x hx with rfl | h
            · exact ⟨HSI.out.1, HSI.out.2, HTT.out⟩
            · exact O3.out x h, by have := O4.out; omega, p7⟩
          have HB3 := Lib.hid (bl_then HB2.out r3)
          clear p1 p2 p3 p4 p5 p6 p7 r3
          go_wp2_with fail
          go_roundw
          case rel => exact ⟨k + 1, by omega, by omega, by go_num, HO3, HB3⟩
          case measure => simp [intOf]; omega
      · have hlm' : ¬ (k : Int) < (most : Int) := by omega
        go_wp2_with fail
        go_ret2
        obtain ⟨L, o1, o2, o3, o4, o5⟩ := HO.out
        exact ⟨q, _, rfl, hq3, ⟨L, o1, setB_iff.2 ⟨hq3, by omega, o3, o2⟩, by omega, o5⟩, HB.out⟩
    · have hlt' : ¬ (k : Int) < (N : Int) := by omega
      go_wp2_with fail
      go_ret2
      obtain ⟨L, o1, o2, o3, o4, o5⟩ := HO.out
      exact ⟨q, _, rfl, hq3, ⟨L, o1, setB_iff.2 ⟨hq3, by omega, o3, o2⟩, by omega, o5⟩, HB.out⟩
end Go.Proofs.Ytpclkocfbkjabaa
