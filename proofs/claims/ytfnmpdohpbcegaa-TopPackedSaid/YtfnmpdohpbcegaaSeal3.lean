/- Contracts of package seal's functions: sums. -/
import Derived.Test.YtfnmpdohpbcegaaSeal2
namespace Go.Proofs.Ytfnmpdohpbcegaa
open Go.RowKit

theorem tabA_one : ∀ v ∈ (tabA 16).toList, v.oneCell' = true := by
  intro v hv
  simp only [tabA, tabL, List.mem_map] at hv
  obtain ⟨j, _, rfl⟩ := hv
  rfl

theorem notN_xor {s : Nat} (h : s < 2 ^ 64) : (2 ^ 64 - 1) ^^^ s = 2 ^ 64 - (s + 1) := by
  apply Nat.eq_of_testBit_eq
  intro i
  rw [Nat.testBit_xor, Nat.testBit_two_pow_sub_one, Nat.testBit_two_pow_sub_succ h]
  by_cases hi : i < 64
  · simp [hi]
  · have : s.testBit i = false := Nat.testBit_lt_two_pow (Nat.lt_of_lt_of_le h (Nat.pow_le_pow_right (by omega) (by omega)))
    simp [hi, this]
theorem u64_not {s : Nat} (h : s < 18446744073709551616) : bits .xor .u64 IntKind.u64.max (s : Int) = ((notN s : Nat) : Int) := by
  have h1 := u64_xor_nat 18446744073709551615 s (by omega) h
  have h2 := notN_xor (s := s) h
  have h3 : 18446744073709551615 ^^^ s = notN s := h2.trans (by unfold notN; omega)
  rw [h3] at h1
  rw [← h1]
  rfl
theorem crc_take (r : Nat) (l : List UInt8) (k : Nat) (h : k < l.length) : crc r (l.take (k + 1)) = byte1 (crc r (l.take k)) l[k].toNat := by
  rw [List.take_succ_eq_append_getElem h, crc_append]; rfl

set_option maxRecDepth 100000 in
theorem more_any (s : Nat) (S : ByteArray) (w : World) (hs : s < 18446744073709551616) (hS : S.size ≤ 9223372036854775807) :
    Calls Try.prog 46 #[.int .u64 (s : Int), .string S] w fun e w' => e = .returned (.int .u64 ((moreN s S.data.toList : Nat) : Int)) ∧ Below w.heap.size w w' := by
  go_enter Try.func46, Try.ntmps46
  go_wp2_with fail
  refine (halves_any _).mono ?_
  rintro e w1 ⟨rfl, hb1⟩
  go_wp2_with (refine wpList_store_row rfl 244 (.tmp 5) (.tmp 9) rfl w1.heap.size (tabA 16) rfl rfl 244 _ (heap_alloc_new _ _) rfl (by rw [tabA_size]; kernel_rfl) tabA_one ?_; rw [setRow_alloc])
  have hx := u64_not hs
  have HX := Lib.hid hx
  clear hx
  go_loopw [15] (fun i w' => ∃ k : Nat, k ≤ S.size ∧ i = .int .i64 k ∧ Blk w' (w1.heap.size + 1) 30 #[.int .u64 ((crc (notN s) (S.data.toList.take k) : Nat) : Int)] ∧ Blk w' w1.heap.size 244 (tabA 16) ∧ Below w.heap.size w w') (fun i _ => S.size - (intOf i).toNat)
  case atStart =>
    have hb := ((Below.refl w1.heap.size w1).alloc (Nat.le_refl _) (.cells (tabA 16) 244)).alloc (by simp) (.cells #[.int .u64 (bits .xor .u64 IntKind.u64.max (s : Int))] 30)
    have hn := Blk.new (w1.alloc (.cells (tabA 16) 244)) 30 #[.int .u64 (bits .xor .u64 IntKind.u64.max (s : Int))]
    rw [show (w1.alloc (.cells (tabA 16) 244)).heap.size = w1.heap.size + 1 by simp] at hn
    exact ⟨0, by omega, rfl, by rw [HX.out] at hn ⊢; exact hn, (Blk.new w1 244 (tabA 16)).alloc _, hb1.trans (hb.mono hb1.size)⟩
  case round =>
    obtain ⟨k, hk, rfl, hr, hl, hb⟩ := hrel
    by_cases hlt : k < S.size
    · have hx1 := crc_lt (r := notN s) (notN_lt s) (S.data.toList.take k)
      have hst := crc_take (notN s) S.data.toList k (by simpa using hlt)
      have HR := Lib.hid hr
      have HL := Lib.hid hl
      have HS := Lib.hid hst
      clear hr hl hst
      go_wp2_with fail
      refine (step_any wr (w1.heap.size + 1) w1.heap.size _ _ HR.out HL.out hx1 (UInt8.toNat_lt _)).mono ?_
      rintro e w2 ⟨rfl, hr2, hg⟩
      have hl2 := HL.out.other hg (by omega)
      have hb2 := below_gb hb hb.size (by have := hb1.size; omega) hg
      clear hg hb
      have HR2 := Lib.hid hr2
      clear hr2
      go_wp2_with fail
      go_roundw
      case rel => exact ⟨k + 1, by omega, by go_num, by rw [HS.out]; exact HR2.out, hl2, hb2⟩
      case measure => simp [intOf]; omega
    · obtain rfl : k = S.size := by omega
      have h1 := hr.cell 0
      simp only [List.getElem?_toArray, List.getElem?_cons_zero] at h1
      clear hr hl
      go_wp2_with fail
      go_ret
      rw [List.take_of_length_le (by simp), u64_not (crc_lt (notN_lt s) _)]
      exact ⟨rfl, hb⟩

theorem sum_any (S : ByteArray) (w : World) (hS : S.size ≤ 9223372036854775807) :
    Calls Try.prog 42 #[.string S] w fun e w' => e = .returned (.int .u64 ((sumN S.data.toList : Nat) : Int)) ∧ Below w.heap.size w w' := by
  have h := moreN_sumN [] S.data.toList
  have h0 : sumN [] = 0 := by decide
  rw [h0, List.nil_append] at h
  have H := Lib.hid h
  clear h h0
  go_enter Try.func42, Try.ntmps42
  go_wp2_with fail
  refine (more_any 0 S _ (by omega) hS).mono ?_
  rintro e w1 ⟨rfl, hb1⟩
  rw [H.out]
  go_wp2_with fail
  go_ret
  exact ⟨rfl, hb1⟩
end Go.Proofs.Ytfnmpdohpbcegaa
