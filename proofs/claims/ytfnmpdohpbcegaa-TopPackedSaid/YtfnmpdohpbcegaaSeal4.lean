/- Contracts of package seal's functions: sealing. -/
import Derived.Test.YtfnmpdohpbcegaaSeal3
import Derived.Test.YtfnmpdohpbcegaaApp
namespace Go.Proofs.Ytfnmpdohpbcegaa
open Go.RowKit

def bs (l : List UInt8) : ByteArray := ⟨l.toArray⟩

theorem le8_snoc (k x : Nat) : le8 (k + 1) x = le8 k x ++ [UInt8.ofNat (x / 256 ^ k)] := by
  induction k generalizing x with
  | zero => simp [le8]
  | succ k ih =>
    show UInt8.ofNat x :: le8 (k + 1) (x / 256) = UInt8.ofNat x :: (le8 k (x / 256) ++ _)
    rw [ih, Nat.div_div_eq_div_mul, Nat.pow_succ, Nat.mul_comm]
theorem le8_length (k x : Nat) : (le8 k x).length = k := by
  induction k generalizing x with
  | zero => rfl
  | succ k ih => simp [le8, ih]
theorem byte_val (x : Nat) : Value.int .u8 ((x : Int) % 256) = .int .u8 (((UInt8.ofNat x).toNat : Nat) : Int) := by
  rw [UInt8.toNat_ofNat']
  simp

theorem gives_byte (w : World) (y : Nat) : Gives (w.alloc (.cells #[.int .u8 ((y : Int) % 256)] 5)) 1 (.slice (some ⟨w.heap.size, 0, none⟩) 1 1) 1 (byteCells [UInt8.ofNat y]) := by
  rw [byte_val]
  exact Gives.of_reads (Reads.new w (byteCells [UInt8.ofNat y]) 5 1 1 rfl)

set_option maxRecDepth 100000 in
theorem seal_any (S : ByteArray) (w : World) (hS : S.size ≤ 140737488351232) :
    Calls Try.prog 44 #[.string S] w fun e w' => e = .returned (.string (bs (sealedN S.data.toList))) ∧ Below w.heap.size w w' := by
  obtain ⟨i5, hi5, hz0, hz1, hz2⟩ := info_parts info5
  go_enter Try.func44, Try.ntmps44
  go_wp2_with fail
  refine (sum_any S _ (by omega)).mono ?_
  rintro e w1 ⟨rfl, hb1⟩
  go_wp2_with (at_make; refine wpList_make_gen rfl 29 (.const (.int .i64 0)) (.tmp 9) rfl w.heap.size 5 i5 _ 1 Try.underlying29 hi5 hz0 hz1 .i64 .i64 (S.size + 8) rfl rfl ?c1 ?c2 ?c3 ?_)
  case c1 => rw [hz2]; omega
  case c2 => unfold maxLen; omega
  case c3 => exact hb1.size
  intro w2 hown hb2 hsz2
  have hb2' := hb1.trans (hb2.mono hb1.size)
  have H2 := Lib.hid hsz2
  clear hsz2 hb2 hi5 hz0 hz1 hz2
  go_wp2_with (at_builtin; refine app_bytes rfl (.tmp 10) (.tmp 11) 9 rfl (Or.inl rfl) w.heap.size _ 0 [] rfl hown _ _ S.data.toList rfl (Gives.of_string _ S) ?c1 ?c2 ?_)
  case c1 => omega
  case c2 => exact hb2'.size
  intro v3 w3 hown3 hg3 hv3
  have hown3 : Own w3 w.heap.size 5 1 v3 S.size (byteCells S.data.toList) := by simpa using hown3
  have hb3 : Below w.heap.size w w3 := hb2'.grown hg3 hb2'.size (fun k hk => (hown.lt k hk).1)
  clear hown hg3 hv3 H2
  go_wp2_with fail
  go_loopw [3, 4, 13] (fun s b i w' => ∃ k : Nat, k ≤ 8 ∧ i = .int .i64 k ∧ s = .int .u64 ((sumN S.data.toList / 256 ^ k : Nat) : Int) ∧ Own w' w.heap.size 5 1 b (S.size + k) (byteCells (S.data.toList ++ le8 k (sumN S.data.toList))) ∧ Below w.heap.size w w') (fun _ _ i _ => 8 - (intOf i).toNat)
  case atStart => exact ⟨0, by omega, rfl, by simp, by simpa [le8] using hown3, hb3⟩
  case round =>
    obtain ⟨k, hk, rfl, rfl, hown4, hb4⟩ := hrel
    have hx := sumN_lt S.data.toList
    generalize hxe : sumN S.data.toList = x at *
    have HXE := Lib.hid hxe
    clear hxe
    have hx2 : x / 256 ^ k < 18446744073709551616 := Nat.lt_of_le_of_lt (Nat.div_le_self _ _) hx
    obtain ⟨y, hy⟩ : ∃ y, x / 256 ^ k = y := ⟨_, rfl⟩
    rw [hy] at hx2
    rw [hy]
    by_cases hlt : k < 8
    · have hs := le8_snoc k x
      rw [hy] at hs
      have hd : x / 256 ^ (k + 1) = y / 256 := by rw [Nat.pow_succ, ← Nat.div_div_eq_div_mul, hy]
      have HS := Lib.hid hs
      have HD := Lib.hid hd
      have HY := Lib.hid hy
      clear hs hd hy
      go_wp2_with (at_builtin; refine app_bytes rfl (.tmp 15) (.tmp 18) 29 rfl (Or.inr rfl) w.heap.size _ _ _ rfl (hown4.alloc _) _ 1 [UInt8.ofNat y] rfl (gives_byte _ _) ?c1 ?c2 ?_)
      case c1 => omega
      case c2 => have := hb4.size; simp; omega
      intro v5 w5 hown5 hg5 hv5
      have hb5 : Below w.heap.size w w5 := (hb4.alloc hb4.size _).grown hg5 (by have := hb4.size; simp; omega) (fun k hk => (hown4.lt k hk).1)
      clear hown4 hg5 hv5
      have HO := Lib.hid hown5
      clear hown5
      go_wp2_with fail
      go_roundw
      case rel => exact ⟨k + 1, by omega, by go_num, by rw [HD.out]; rfl, by rw [HS.out]; exact HO.out, hb5⟩
      case measure => simp [intOf]; omega
    · obtain rfl : k = 8 := by omega
      obtain ⟨A, c, rfl, hr⟩ := hown4.reads
      have HR := Lib.hid hr
      clear hr hown4
      go_wp2_with (refine wpList_string_of rfl 29 9 5 (.tmp 23) rfl _ A _ c _ rfl HR.out Try.underlying29 Try.underlying5 Try.underlying9 ?_)
      go_ret
      refine ⟨?_, hb4⟩
      unfold sealedN
      rw [HXE.out]
      rfl
end Go.Proofs.Ytfnmpdohpbcegaa
