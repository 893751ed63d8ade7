/-
  The laws' letters, with, tame.
-/
import Derived.Test.YtpclkocfbkjabaaA24
import Derived.Laws.BytesArg
namespace Go.Proofs.Ytpclkocfbkjabaa
open Go.RowKit Go.Shelf
set_option linter.unusedVariables false
set_option linter.unusedSimpArgs false

theorem infoU : (Try.prog.info? 5).map (fun i => (i.zero, i.size, i.bytes)) = some (some (.int .u8 0), 1, 1) := by kernel_rfl
def byteV (c : UInt8) : Value := .int .u8 (c.toNat : Int)
theorem own_string (base : Nat) (v : Value) (l : List UInt8) (w : World) (h : w.ownsRow base 5 1 v l.length (l.map byteV)) :
    (convert 110 9 v).run Try.prog w = .ok (.string ⟨l.toArray⟩) w := by
  rcases h.2 with ⟨rfl, h0⟩ | ⟨g, cap, cur, rfl, _⟩
  · obtain rfl := List.eq_nil_of_length_eq_zero h0
    exact run_convert_bytes_nil w _ _ Try.underlying110 Try.underlying5 0 0 _ Try.underlying9
  · refine run_convert_bytes_back w _ _ _ ⟨g, 0, none⟩ cap l Try.underlying110 Try.underlying5 Try.underlying9 fun j hj => ?_
    have e : (⟨g, 0, none⟩ : Addr).add j = ⟨g, j, none⟩ := by simp [Addr.add]; intro h; exact h.symm
    rw [e, h.cellAt j (by omega)]
    simp [List.getElem?_eq_getElem hj, byteV]
theorem byte_lt (c : UInt8) : (c.toNat : Int) ≤ 255 := by have := c.toNat_lt; omega
def tmB (q : Nat) (b : UInt8) : UInt8 := ltr (b.toNat % q)
/-- What 'letters' makes of a string. -/
def tmL (q n : Nat) (s : ByteArray) : Str := ((sb s).take n).map (tmB q)
theorem tm_lett {q : Nat} (hq : 1 ≤ q ∧ q ≤ 3) (n : Nat) (s : ByteArray) : lettB q (tmL q n s) = true := by
  rw [lettB_iff hq.2]
  intro b hb
  unfold tmL at hb
  obtain ⟨c, _, rfl⟩ := List.mem_map.1 hb
  exact ⟨c.toNat % q, Nat.mod_lt _ (by omega), rfl⟩
theorem tm_len (q n : Nat) (s : ByteArray) : (tmL q n s).length = min n s.size := by
  unfold tmL
  rw [List.length_map, List.length_take, sb_size]
theorem tm_succ {q n : Nat} {s : ByteArray} (h : n < s.size) : tmL q (n + 1) s = tmL q n s ++ [tmB q (s[n]'h)] := by
  unfold tmL
  rw [List.take_succ_eq_append_getElem (by rw [sb_size]; exact h), List.map_append]
  rfl
set_option maxRecDepth 100000 in
set_option maxHeartbeats 4000000 in
theorem letters_any (s : ByteArray) (q n : Nat) (hq : 1 ≤ q ∧ q ≤ 3) (w : World) (hs : s.size ≤ maxLen) (hn : n ≤ 1000) :
    Calls Try.prog 67 #[.string s, .int .i64 q, .int .i64 n] w fun e w' => e = .returned (.string (bs (tmL q n s))) ∧ Below w.heap.size w w' := by
  obtain ⟨i0, hi, hz0, hz1, hz2⟩ := info_parts infoU
  have hq0 : ¬ (q : Int) = 0 := by omega
  have hqb : ((q : Int) == 0) = false := by rw [beq_eq_false_iff_ne]; omega
  have hqw : (q : Int) % 256 = (q : Int) := by omega
  obtain ⟨Z, hZ⟩ : ∃ Z, Z = s.size := ⟨_, rfl⟩
  have HZ := Lib.hid hZ
  have hZ' : s.size = Z := hZ.symm
  rw [← hZ] at hs
  clear hZ
  go_enter Try.func67, Try.ntmps67
  go_wp2_with fail
  go_loopw [7, 8] (fun v i wr => ∃ (k : Nat), k ≤ Z ∧ k ≤ n ∧ i = .int .i64 k ∧ Hid (wr.ownsRow w.heap.size 5 1 v k ((tmL q k s).map byteV)) ∧ Hid (Below w.heap.size w wr)) (fun _ i _ => n - (intOf i).toNat)
  case atStart => exact ⟨0, Nat.zero_le _, Nat.zero_le _, rfl, Lib.hid (World.ownsRow_nil _ _ _ _), Lib.hid (bl_refl w)⟩
  case round =>
    obtain ⟨k, hk, hkn, rfl, HO, HB⟩ := hrel
    by_cases hlt : k < Z
    · have hlt' : (k : Int) < (Z : Int) := by omega
      by_cases hln : k < n
      · have hln' : (k : Int) < (n : Int) := by omega
        have hks : k < s.size := by omega
        have hsc := tm_succ (q := q) hks
        obtain ⟨b, hb⟩ : ∃ b, s[k]'hks = b := ⟨_, rfl⟩
        rw [hb] at hsc
        have hv := byte_lt b
        obtain ⟨c, hc⟩ : ∃ c, c = b.toNat % q := ⟨_, rfl⟩
        have hcq : c < q := by rw [hc]; exact Nat.mod_lt _ (by omega)
        have p2 : (b.toNat : Int) % (q : Int) = (c : Int) := by rw [hc, Int.natCast_emod]
        have p1 : Int.tmod (b.toNat : Int) (q : Int) = (c : Int) := by rw [Int.tmod_eq_emod_of_nonneg (by omega), p2]
        have p3 : (97 + (c : Int)) % 256 = 97 + (c : Int) := by omega
        have p4 : (c : Int) % 256 = (c : Int) := by omega
        have HE : Hid ((tmL q (k + 1) s).map byteV = (tmL q k s).map byteV ++ [.int .u8 (97 + (c : Int))]) := Lib.hid (by
          rw [hsc, List.map_append]
          congr 1
          show [byteV (tmB q b)] = _
          unfold byteV tmB
          rw [← hc, ltr_nat (by omega), Int.natCast_add]
          rfl)
        have ho := HO.out
        have hz := HB.out.size
        clear hsc hc
        go_wp2_with (at_builtin; refine wpList_append_own _ rfl (.tmp 20) (.tmp 28) _ rfl w.heap.size 5 i0 _ 1 1 Try.underlying110 hi hz0 hz1 hz2 rfl (by decide) _ k ((tmL q k s).map byteV) rfl (ho.alloc _) ⟨wr.heap.size, 0, none⟩ 1 1 [.int .u8 (97 + (c : Int))] rfl rfl (cells_new _ _ _) (by intro u hu; rw [List.mem_singleton.1 hu]; rfl) (by unfold maxLen; omega) (by omega) (by simp; omega) ?_; intro v3 w3 hown3 hg3 _)
        have hoA := ho.alloc (.cells #[.int .u8 (97 + (c : Int))] 5)
        have HB3 := Lib.hid (bl_grown (bl_alloc HB.out (.cells #[.int .u8 (97 + (c : Int))] 5)) hoA (Nat.le_refl _) hg3)
        have HO3 : Hid (w3.ownsRow w.heap.size 5 1 v3 (k + 1) ((tmL q (k + 1) s).map byteV)) := Lib.hid (by rw [HE.out]; exact hown3)
        clear hg3 hoA hown3 ho
        go_wp2_with fail
        go_roundw
        case rel => exact ⟨k + 1, by omega, by omega, by go_num, HO3, HB3⟩
        case measure => simp [intOf]; omega
      · have hkn' : k = n := by omega
        have hll : (tmL q k s).length = k := by rw [tm_len]; omega
        have hcv := own_string w.heap.size _ (tmL q k s) wr (by rw [hll]; exact HO.out)
        have HK := Lib.hid hkn'
        clear hll hkn'
        go_wp2_with fail
        go_ret
        exact ⟨by rw [← HK.out]; rfl, HB.out⟩
    · have hkn' : k = Z := by omega
      have hll : (tmL q k s).length = k := by rw [tm_len]; have := HZ.out; omega
      have hcv := own_string w.heap.size _ (tmL q k s) wr (by rw [hll]; exact HO.out)
      have HK : Hid (tmL q k s = tmL q n s) := Lib.hid (by
        unfold tmL
        rw [List.take_of_length_le (by rw [sb_size]; have := HZ.out; omega), List.take_of_length_le (by rw [sb_size]; have := HZ.out; omega)])
      clear hll hkn'
      go_wp2_with fail
      go_ret
      exact ⟨by rw [← HK.out]; rfl, HB.out⟩
end Go.Proofs.Ytpclkocfbkjabaa
