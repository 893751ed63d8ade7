/-
  words: all words of a length.
-/
import Derived.Test.YtnamafakjkcmjaaT16
namespace Go.Proofs.Ytnamafakjkcmjaa
open Go.RowKit Go.Shelf
set_option linter.unusedVariables false
set_option linter.unusedSimpArgs false

def kids1 (q c : Nat) (s : Str) : List Str := (List.range c).map fun c => s ++ [ltr c]
theorem kids1_succ (q c : Nat) (s : Str) : kids1 q (c + 1) s = kids1 q c s ++ [s ++ [ltr c]] := by
  unfold kids1
  rw [List.range_succ, List.map_append]
  rfl
def more1 (q n j : Nat) : List Str := ((wordsL q n).take j).flatMap (kids1 q q)
theorem more1_succ {q n j : Nat} (h : j < (wordsL q n).length) : more1 q n (j + 1) = more1 q n j ++ kids1 q q (wordsL q n)[j] := by
  unfold more1
  rw [List.take_succ_eq_append_getElem h, List.flatMap_append]
  simp
theorem more1_all (q n : Nat) : more1 q n (wordsL q n).length = wordsL q (n + 1) := by
  unfold more1
  rw [List.take_length]
  rfl
theorem kids1_len (q c : Nat) (s : Str) : (kids1 q c s).length = c := by simp [kids1]
theorem more1_len (q n : Nat) : ∀ {j : Nat}, j ≤ (wordsL q n).length → (more1 q n j).length = j * q
  | 0, _ => by simp [more1]
  | j + 1, h => by
    rw [more1_succ h, List.length_append, more1_len q n (by omega), kids1_len, Nat.succ_mul]
theorem kids1_snoc {q c : Nat} {s tt : Str} (h : tt = s ++ [ltr c]) : kids1 q (c + 1) s = kids1 q c s ++ [tt] := by rw [kids1_succ, h]
theorem words_few {q n : Nat} (hq : q ≤ 3) (hn : n ≤ 5) : (wordsL q n).length ≤ 243 := by
  rw [words_len]
  calc q ^ n ≤ 3 ^ n := Nat.pow_le_pow_left hq n
    _ ≤ 3 ^ 5 := Nat.pow_le_pow_right (by omega) hn
    _ = 243 := rfl

set_option maxRecDepth 100000 in
set_option maxHeartbeats 4000000 in
theorem words_any (q n : Nat) (hq : 1 ≤ q ∧ q ≤ 3) (hn : n ≤ 5) (w : World) :
    Calls Try.prog 73 #[.int .i64 q, .int .i64 n] w fun e w' => ∃ v, e = .returned v ∧ w'.ownsRow w.heap.size 9 1 v (wordsL q n).length (encS (wordsL q n)) ∧ Below w.heap.size w w' := by
  obtain ⟨i0, hi, hz0, hz1, hz2⟩ := info_parts infoS
  have o0 : (w.alloc (.cells #[.string ⟨#[]⟩] 9)).ownsRow w.heap.size 9 1 (.slice (some ⟨w.heap.size, 0, none⟩) 1 1) 1 (encS (wordsL q 0)) :=
    World.ownsRow_lit (base := w.heap.size) (e := 9) (size := 1) w #[.string ⟨#[]⟩] 1 (Nat.le_refl _) (by unfold maxLen; omega) rfl
  have O0 := Lib.hid o0
  clear o0
  go_enter Try.func73, Try.ntmps73
  go_wp2_with fail
  go_loopw [5, 13] (fun v i wr => ∃ k : Nat, k ≤ n ∧ i = .int .i64 k ∧ Hid (wr.ownsRow w.heap.size 9 1 v (wordsL q k).length (encS (wordsL q k))) ∧ Hid (Below w.heap.size w wr)) (fun _ i _ => n - (intOf i).toNat)
  case atStart => exact ⟨0, Nat.zero_le _, rfl, O0, Lib.hid (bl_alloc (bl_refl w) _)⟩
  case round =>
    obtain ⟨k, hk, rfl, HO, HB⟩ := hrel
    clear O0
    by_cases hkn : k < n
    · have hfew := words_few (n := k) hq.2 (by omega)
      have hpos : 0 < (wordsL q k).length := by rw [words_len]; exact Nat.pow_pos hq.1
      obtain ⟨N, hN⟩ : ∃ N, N = (wordsL q k).length := ⟨_, rfl⟩
      have HN := Lib.hid hN
      rw [← hN] at HO hfew hpos
      clear hN
      obtain ⟨g5, c5, rfl, hg5, hg52⟩ := own_form HO.out hpos
      have hrd : Hid (∀ j, ∀ h : j < (wordsL q k).length, wr.cell? ⟨g5, j, none⟩ = some (.string (bs (wordsL q k)[j]))) := Lib.hid fun j h => by
        rw [HO.out.cellAt j (by have := HN.out; omega)]
        unfold encS
        rw [List.getElem?_map, List.getElem?_eq_getElem h]
        rfl
      obtain ⟨al, hal⟩ : ∃ al, (⟨#[97, 98, 99]⟩ : ByteArray).extract 0 q = al := ⟨_, rfl⟩
      have AL := Lib.hid (alpha_al hq hal)
      go_wp2_with fail
      generalize wr = W0 at *
      go_loopw [6, 17] (fun v j wx => ∃ m : Nat, m ≤ N ∧ j = .int .i64 m ∧ Hid (wx.ownsRow W0.heap.size 9 1 v (m * q) (encS (more1 q k m))) ∧ Hid (Below W0.heap.size W0 wx)) (fun _ j _ => N - (intOf j).toNat)
      case atStart => exact ⟨0, Nat.zero_le _, rfl, Lib.hid (by rw [Nat.zero_mul]; exact World.ownsRow_nil _ _ _ _), Lib.hid (bl_refl W0)⟩
      case round =>
        obtain ⟨m, hm, rfl, HM, HBx⟩ := hrel
        by_cases hmN : m < N
        · have hmw : m < (wordsL q k).length := by have := HN.out; omega
          have cR := (HBx.out.cell (p := ⟨g5, m, none⟩) hg52).trans (hrd.out m hmw)
          have lR := Nat.lt_of_lt_of_le hg52 HBx.out.size
          obtain ⟨s, hs⟩ : ∃ s, s = (wordsL q k)[m] := ⟨_, rfl⟩
          rw [← hs] at cR
          have hsl : s.length ≤ 5 := by rw [hs, ((mem_words q k _).1 (List.getElem_mem hmw)).1]; omega
          have HS := Lib.hid hs
          clear hs
          go_wp2_with fail
          clear hal
          generalize wr = W1 at *
          obtain ⟨kI, hkI⟩ : ∃ kI, kI = W1.heap.size := ⟨_, rfl⟩
          have hkW : W0.heap.size ≤ kI := by rw [hkI]; exact HBx.out.size
          rw [← hkI]
          go_loopw [6] (fun v wx => ∃ c : Nat, c ≤ q ∧ wx.heap[kI]? = some (.stringIter al c) ∧ wx.ownsRow W0.heap.size 9 1 v (m * q + c) (encS (more1 q k m ++ kids1 q c s)) ∧ Hid (Below W0.heap.size W0 wx) ∧ kI < wx.heap.size) (fun _ wx => q - wx.iterPos kI)
          case atStart =>
            refine ⟨0, Nat.zero_le _, by rw [hkI]; exact W1.iter_heap al 0, ?_, Lib.hid (bl_alloc HBx.out _), by rw [hkI]; simp [World.iter]⟩
            rw [show kids1 q 0 s = [] from rfl, List.append_nil]
            exact HM.out.alloc _
          case round =>
            obtain ⟨c, hc, hit, ho, HBy, hkx⟩ := hrel
            clear HM HBx hkI
            by_cases hcq : c < q
            · obtain ⟨rn, hrn⟩ : ∃ rn : Int, rn = ((97 + c : Nat) : Int) := ⟨_, rfl⟩
              have henc : Utf8.encode rn = bs [ltr c] := by rw [hrn]; exact enc_ltr (by omega)
              obtain ⟨tt, htt⟩ : ∃ tt, tt = s ++ [ltr c] := ⟨_, rfl⟩
              have happ : bs s ++ bs [ltr c] = bs tt := by rw [htt]; exact bs_append _ _
              obtain ⟨W2, hnx, hit2, hgI⟩ : ∃ W2, (∀ ty, (Instr.next (.pointer (some ⟨kI, 0, none⟩)) true ty).run Try.prog wr = .ok (.tuple #[.bool true, .int .i64 c, .int .i32 rn]) W2) ∧ W2.heap[kI]? = some (.stringIter al (c + 1)) ∧ wr.grownBy W2 (some kI) := by
                obtain ⟨a1, a2⟩ := AL.out
                obtain ⟨a3, a4⟩ := a2 c hcq
                refine ⟨wr.iterAt kI al (c + 1), fun ty => ?_, Lib.iterAt_heap _ _ _ _ _ hit, grown_iter _ _ _ _⟩
                rw [Lib.run_next_ascii_at wr kI al c ty hit a3 (by rw [a4]; omega), a4, hrn]
              have ho2 := own_iter ho hit hgI
              have hB2 := HBy.out.grown hgI HBy.out.size (fun r e => by cases e; exact hkW)
              have hk2 : kI < W2.heap.size := Nat.lt_of_lt_of_le hkx hgI.size
              have HP := Lib.hid (iterPos_of hit)
              have zs1 : (bs s).size ≤ 5 := hsl
              have zs2 : (bs [ltr c]).size ≤ 1 := Nat.le_refl _
              have HTT := Lib.hid htt
              have HB2 := Lib.hid hB2
              have hzW := hB2.size
              clear htt hrn hit ho HBy hgI hB2 cR
              have hmc : m * q + c ≤ 10000 := by
                have : m * q ≤ 243 * 3 := Nat.mul_le_mul (by omega) hq.2
                omega
              go_wp2_with (at_builtin; refine wpList_append_own _ rfl (.tmp 27) (.tmp 32) _ rfl W0.heap.size 9 i0 _ 1 16 Try.underlying22 hi hz0 hz1 hz2 rfl (by decide) _ (m * q + c) (encS (more1 q k m ++ kids1 q c s)) rfl (ho2.alloc _) ⟨W2.heap.size, 0, none⟩ 1 1 [.string (bs tt)] rfl rfl (cells_new _ _ _) (by intro u hu; rw [List.mem_singleton.1 hu]; rfl) (by unfold maxLen; omega) (by omega) (by simp; omega) ?_; intro v6 w6 hown6 hg6 _)
              rw [← encS_snoc, List.append_assoc, ← kids1_snoc HTT.out] at hown6
              have hoA := ho2.alloc (.cells #[.string (bs tt)] 9)
              have HB6 := Lib.hid (bl_grown (bl_alloc HB2.out (.cells #[.string (bs tt)] 9)) hoA (Nat.le_refl _) hg6)
              have hit6 : w6.heap[kI]? = some (.stringIter al (c + 1)) := (hg6.block kI (by simp; omega) (iter_ne hoA ((Below.heap_alloc _ _ kI hk2).trans hit2))).trans ((Below.heap_alloc _ _ kI hk2).trans hit2)
              have hs6 : kI < w6.heap.size := by have := hg6.size; simp at this; omega
              clear hg6 hoA HB2 ho2 hnx henc happ
              go_wp2_with fail
              go_roundw
              case rel => exact ⟨c + 1, by omega, hit6, by rw [← Nat.add_assoc]; exact hown6, HB6, hs6⟩
              case measure => rw [HP.out, iterPos_of hit6]; omega
            · have ec : c = q := by omega
              subst ec
              have hnx : ∀ ty, (Instr.next (.pointer (some ⟨kI, 0, none⟩)) true ty).run Try.prog wr = .ok (.tuple #[.bool false]) wr := fun ty =>
                Lib.run_next_end_at wr kI al c ty hit (by rw [AL.out.1]; omega)
              have HO2 : Hid (wr.ownsRow W0.heap.size 9 1 u6 ((m + 1) * c) (encS (more1 c k (m + 1)))) := Lib.hid (by
                rw [more1_succ hmw, ← HS.out, Nat.succ_mul]; exact ho)
              clear ho hit
              go_wp2_with fail
              go_roundw
              case rel => exact ⟨m + 1, by omega, by go_num, HO2, HBy⟩
              case measure => simp [intOf]; omega
        · have em : N = m := by omega
          subst em
          have HO2 : Hid (wr.ownsRow w.heap.size 9 1 u6 (wordsL q (k + 1)).length (encS (wordsL q (k + 1)))) := Lib.hid (by
            have h := HM.out
            rw [← more1_all, more1_len _ _ (Nat.le_refl _), ← HN.out]
            exact own_low h HB.out.size)
          have HB2 := Lib.hid (bl_then HB.out HBx.out)
          clear HM HBx
          go_wp2_with fail
          go_roundw
          case rel => exact ⟨k + 1, by omega, by go_num, HO2, HB2⟩
          case measure => simp [intOf]; omega
    · have ek : n = k := by omega
      subst ek
      have HO2 := Lib.hid HO.out
      clear HO
      go_wp2_with fail
      go_ret
      exact ⟨_, rfl, HO2.out, HB.out⟩
end Go.Proofs.Ytnamafakjkcmjaa
