/- The statement's own sums: sum33, sealed33, opens33. -/
import Derived.Test.YtfnmpdohpbcegaaSeal4
import Derived.Lib.Strings
namespace Go.Proofs.Ytfnmpdohpbcegaa
open Go.RowKit

theorem bitsN_succ (n r : Nat) : bitsN (n + 1) r = bit1 (bitsN n r) := rfl

set_option maxRecDepth 100000 in
theorem sum33_any (S : ByteArray) (w : World) (hS : S.size ≤ 9223372036854775806) :
    Calls Try.prog 43 #[.string S] w fun e w' => e = .returned (.int .u64 ((sumN S.data.toList : Nat) : Int)) ∧ w = w' := by
  go_enter Try.func43, Try.ntmps43
  go_wp2_with fail
  go_loop [3, 4] (fun r i => ∃ k : Nat, k ≤ S.size ∧ i = .int .i64 k ∧ r = .int .u64 ((crc 18446744073709551615 (S.data.toList.take k) : Nat) : Int)) (fun _ i => S.size - (intOf i).toNat)
  case atStart => exact ⟨0, by omega, rfl, rfl⟩
  case round =>
    obtain ⟨k, hk, rfl, rfl⟩ := hrel
    by_cases hlt : k < S.size
    · have hx1 := crc_lt (r := 18446744073709551615) (by omega) (S.data.toList.take k)
      have hst := crc_take 18446744073709551615 S.data.toList k (by simpa using hlt)
      have hxx := u64_xor_nat (crc 18446744073709551615 (S.data.toList.take k)) S[k].toNat hx1 (by have := UInt8.toNat_lt S[k]; omega)
      have hx2 : crc 18446744073709551615 (S.data.toList.take k) ^^^ S[k].toNat < 18446744073709551616 := Nat.xor_lt_two_pow (n := 64) hx1 (by have := UInt8.toNat_lt S[k]; omega)
      have hcb : S[k].toNat < 256 := UInt8.toNat_lt S[k]
      have HS := Lib.hid hst
      clear hst
      generalize crc 18446744073709551615 (S.data.toList.take k) = x at *
      go_wp2_with fail
      go_loop [3, 5] (fun r i => ∃ n : Nat, n ≤ 8 ∧ i = .int .i64 n ∧ r = .int .u64 ((bitsN n (x ^^^ S[k].toNat) : Nat) : Int)) (fun _ i => 8 - (intOf i).toNat)
      case atStart => exact ⟨0, by omega, rfl, rfl⟩
      case round =>
        obtain ⟨n, hn, rfl, rfl⟩ := hrel
        have hy := bitsN_lt hx2 n
        have hs2 := bitsN_succ n (x ^^^ S[k].toNat)
        have HS2 := Lib.hid hs2
        clear hs2
        generalize hye : bitsN n (x ^^^ S[k].toNat) = y at *
        have HS3 := Lib.hid hye
        clear hye
        by_cases hlt : n < 8
        · have h1 := u64_and1 hy
          have h2 : ((y % 2 : Nat) : Int) * 14514072000185962306 ≤ 14514072000185962306 := by omega
          have h3 := u64_xor_nat (y / 2) (y % 2 * polyN) (by omega) (by have := polyN_lt; rcases Nat.mod_two_eq_zero_or_one y with h | h <;> rw [h] <;> omega)
          have h4 : ((y / 2 ^^^ y % 2 * polyN : Nat) : Int) = ((bit1 y : Nat) : Int) := rfl
          rw [h4] at h3
          have h5 : bits .xor .u64 ((y : Int) / 2) (((y : Int) % 2) * 14514072000185962306) = ((bit1 y : Nat) : Int) := by rw [← h3]; simp [polyN]
          clear h3 h4
          go_wp2_with fail
          go_round
          case rel => exact ⟨n + 1, by omega, by go_num, by rw [HS2.out]⟩
          case measure => simp [intOf]; omega
        · obtain rfl : n = 8 := by omega
          go_wp2_with fail
          go_round
          case rel => exact ⟨k + 1, by omega, by go_num, by rw [HS.out, ← HS3.out]; rfl⟩
          case measure => simp [intOf]; omega
    · obtain rfl : k = S.size := by omega
      have hx := u64_not (crc_lt (r := 18446744073709551615) (by omega) S.data.toList)
      have HX := Lib.hid hx
      clear hx
      go_wp2_with fail
      go_ret
      rw [List.take_of_length_le (by simp), HX.out]
      exact ⟨rfl, rfl⟩
theorem shr8_val {x k : Nat} : Value.int .u8 (((x : Int) / 2 ^ (8 * k)) % 256) = .int .u8 (((UInt8.ofNat (x / 256 ^ k)).toNat : Nat) : Int) := by
  rw [← byte_val]
  rw [show (256 : Nat) = 2 ^ 8 by rfl, ← Nat.pow_mul]
  simp

theorem gives_shr (w : World) (x k : Nat) : Gives (w.alloc (.cells #[.int .u8 ((x : Int) / 2 ^ (8 * k) % 256)] 5)) 1 (.slice (some ⟨w.heap.size, 0, none⟩) 1 1) 1 (byteCells [UInt8.ofNat (x / 256 ^ k)]) := by
  rw [shr8_val]
  exact Gives.of_reads (Reads.new w (byteCells [UInt8.ofNat (x / 256 ^ k)]) 5 1 1 rfl)

set_option maxRecDepth 100000 in
theorem sealed33_any (S : ByteArray) (w : World) (hS : S.size ≤ 140737488351232) :
    Calls Try.prog 45 #[.string S] w fun e w' => e = .returned (.string (bs (sealedN S.data.toList))) ∧ Below w.heap.size w w' := by
  go_enter Try.func45, Try.ntmps45
  go_wp2_with fail
  refine (sum33_any S _ (by omega)).mono ?_
  rintro e w1 ⟨rfl, rfl⟩
  go_wp2_with (refine wpList_bytes_of rfl 9 29 5 (.tmp 8) rfl w.heap.size S rfl Try.underlying9 Try.underlying29 Try.underlying5 ?c1 (Nat.le_refl _) ?_)
  case c1 => unfold maxLen; omega
  intro v3 w3 hown3 hb3 hv3
  rw [strCells_eq] at hown3
  clear hv3
  go_wp2_with fail
  go_loopw [4, 5] (fun b i w' => ∃ k : Nat, k ≤ 8 ∧ i = .int .i64 k ∧ Own w' w.heap.size 5 1 b (S.size + k) (byteCells (S.data.toList ++ le8 k (sumN S.data.toList))) ∧ Below w.heap.size w w') (fun _ i _ => 8 - (intOf i).toNat)
  case atStart => exact ⟨0, by omega, rfl, by simpa [le8] using hown3, hb3⟩
  case round =>
    obtain ⟨k, hk, rfl, hown4, hb4⟩ := hrel
    have hx := sumN_lt S.data.toList
    generalize hxe : sumN S.data.toList = x at *
    have HXE := Lib.hid hxe
    clear hxe
    by_cases hlt : k < 8
    · have hs := le8_snoc k x
      have HS := Lib.hid hs
      clear hs
      go_wp2_with (at_builtin; refine app_bytes rfl (.tmp 14) (.tmp 20) 29 rfl (Or.inr rfl) w.heap.size _ _ _ rfl (hown4.alloc _) _ 1 [UInt8.ofNat (x / 256 ^ k)] rfl (gives_shr _ _ _) ?c1 ?c2 ?_)
      case c1 => omega
      case c2 => have := hb4.size; simp; omega
      intro v5 w5 hown5 hg5 hv5
      have hb5 : Below w.heap.size w w5 := (hb4.alloc hb4.size _).grown hg5 (by have := hb4.size; simp; omega) (fun k hk => (hown4.lt k hk).1)
      clear hown4 hg5 hv5
      have HO := Lib.hid hown5
      clear hown5
      go_wp2_with fail
      go_roundw
      case rel => exact ⟨k + 1, by omega, by go_num, by rw [HS.out]; first | exact HO.out | (rw [← List.append_assoc]; exact HO.out), hb5⟩
      case measure => simp [intOf]; omega
    · obtain rfl : k = 8 := by omega
      obtain ⟨A, c, rfl, hr⟩ := hown4.reads
      have HR := Lib.hid hr
      clear hr hown4
      go_wp2_with (refine wpList_string_of rfl 29 9 5 (.tmp 22) rfl _ A _ c _ rfl HR.out Try.underlying29 Try.underlying5 Try.underlying9 ?_)
      go_ret
      refine ⟨?_, hb4⟩
      unfold sealedN
      rw [HXE.out]
      rfl

/-- What an opening tells. -/
def openN (l : List UInt8) : Bool := decide (8 ≤ l.length) && (sealedN (l.take (l.length - 8)) == l)

theorem toList_size (S : ByteArray) : S.data.toList.length = S.size := by simp

theorem take_data (S : ByteArray) (n : Nat) : (S.extract 0 n).data.toList = S.data.toList.take n := by
  rw [Lib.extract_data]; simp
theorem take_size (S : ByteArray) (n : Nat) (h : n ≤ S.size) : (S.extract 0 n).size = n := by simp; omega

theorem eq_bytes (l : List UInt8) (S : ByteArray) : ((bs l).toList == S.toList) = (l == S.data.toList) := by
  rw [Lib.toList_data, Lib.toList_data]; rfl
def openV (l : List UInt8) : Value := .tuple #[.string (if openN l then bs (l.take (l.length - 8)) else bs []), .bool (openN l)]

theorem opens33_any (S : ByteArray) (w : World) (hS : S.size ≤ 140737488351232) :
    Calls Try.prog 52 #[.string S] w fun e w' => e = .returned (.bool (openN S.data.toList)) ∧ Below w.heap.size w w' := by
  by_cases h : 8 ≤ S.size
  · go_enter Try.func52, Try.ntmps52
    go_wp2_with fail
    refine (sealed33_any _ _ (by simp; omega)).mono ?_
    rintro e w1 ⟨rfl, hb1⟩
    rw [take_data]
    go_wp2_with fail
    go_ret
    refine ⟨?_, hb1⟩
    rw [eq_bytes]
    unfold openN
    rw [toList_size]
    simp [h]
  · go_enter Try.func52, Try.ntmps52
    go_wp2_with fail
    go_ret
    refine ⟨?_, Below.refl _ _⟩
    unfold openN
    rw [toList_size]
    simp [h]
theorem open_any (S : ByteArray) (w : World) (hS : S.size ≤ 140737488351232) :
    Calls Try.prog 48 #[.string S] w fun e w' => e = .returned (openV S.data.toList) ∧ Below w.heap.size w w' := by
  by_cases h : 8 ≤ S.size
  · go_enter Try.func48, Try.ntmps48
    go_wp2_with fail
    refine (seal_any _ _ (by simp; omega)).mono ?_
    rintro e w1 ⟨rfl, hb1⟩
    rw [take_data]
    have hq := eq_bytes (sealedN (List.take (S.size - 8) S.data.toList)) S
    cases ho : (sealedN (List.take (S.size - 8) S.data.toList) == S.data.toList)
    · have hv : openV S.data.toList = .tuple #[.string ⟨#[]⟩, .bool false] := by
        unfold openV openN
        rw [toList_size, ho]
        simp [bs]
      rw [ho] at hq
      have HV := Lib.hid hv
      clear hv ho
      go_wp2_with fail
      go_ret2
      exact ⟨by rw [HV.out]; rfl, hb1⟩
    · have hv : openV S.data.toList = .tuple #[.string (S.extract 0 (S.size - 8)), .bool true] := by
        unfold openV openN
        rw [toList_size, ho]
        simp only [h, decide_true, Bool.and_true, if_true]
        have : bs (S.data.toList.take (S.size - 8)) = S.extract 0 (S.size - 8) := by
          apply ByteArray.ext
          apply Array.ext'
          rw [take_data]
          simp [bs]
        rw [this]
      rw [ho] at hq
      have HV := Lib.hid hv
      clear hv ho
      go_wp2_with fail
      go_ret2
      exact ⟨by rw [HV.out]; rfl, hb1⟩
  · go_enter Try.func48, Try.ntmps48
    go_wp2_with fail
    go_ret2
    refine ⟨?_, Below.refl _ _⟩
    unfold openV openN
    rw [toList_size]
    simp [h, bs]
end Go.Proofs.Ytfnmpdohpbcegaa
