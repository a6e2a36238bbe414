/- Numbers packed seven bits at a time. -/
import Derived.Test.YtfnmpdohpbcegaaScan
import Derived.Test.YtfnmpdohpbcegaaPut
namespace Go.Proofs.Ytfnmpdohpbcegaa
open Go Go.RowKit

def numP (n : Nat) : List UInt8 := if n < 128 then [UInt8.ofNat n] else UInt8.ofNat (n % 128 + 128) :: numP (n / 128)
theorem numP_small {n : Nat} (h : n < 128) : numP n = [UInt8.ofNat n] := by rw [numP, if_pos h]
theorem numP_big {n : Nat} (h : ¬ n < 128) : numP n = UInt8.ofNat (n % 128 + 128) :: numP (n / 128) := by rw [numP, if_neg h]
theorem numP_len {n k : Nat} (hk : 0 < k) (h : n < 128 ^ k) : (numP n).length ≤ k := by
  induction k generalizing n with
  | zero => omega
  | succ k ih =>
    by_cases hn : n < 128
    · rw [numP_small hn]; simp
    · rw [numP_big hn]
      have hk0 : 0 < k := by
        rcases Nat.eq_zero_or_pos k with h0 | h0
        · subst h0; simp at h; omega
        · exact h0
      have := ih (n := n / 128) hk0 (by rw [Nat.pow_succ] at h; omega)
      simp only [List.length_cons]; omega
theorem numP_ten {n : Nat} (h : n < 18446744073709551616) : (numP n).length ≤ 10 := numP_len (by omega) (Nat.lt_of_lt_of_le h (by decide))
/-- The packed numbers' cells. -/
def u64s (l : List Nat) : List Value := l.map fun (n : Nat) => Value.int .u64 (n : Int)
theorem u64s_at {l : List Nat} {k : Nat} {u : Value} (h : (u64s l)[k]? = some u) : ∃ hk : k < l.length, u = .int .u64 (l[k] : Int) := by
  unfold u64s at h
  rw [List.getElem?_map] at h
  by_cases hk : k < l.length
  · rw [List.getElem?_eq_getElem hk] at h
    exact ⟨hk, by simpa using h.symm⟩
  · rw [List.getElem?_eq_none (by omega)] at h
    simp at h
/-- `byte(n) | 0x80`. -/
theorem or128 (n : Nat) : n % 256 ||| 128 = n % 128 + 128 := by
  have h1 : n % 256 = n % 128 + 128 * (n / 128 % 2) := by omega
  have h2 : ∀ a : Fin 256, a.val ||| 128 = a.val % 128 + 128 := by decide +kernel
  have := h2 ⟨n % 256, by omega⟩
  simp only at this
  omega
theorem or128_val (n : Nat) : bits .or .u8 ((n : Int) % 256) 128 = (((UInt8.ofNat (n % 128 + 128)).toNat : Nat) : Int) := by
  have h0 : ((n : Int) % 256) = ((n % 256 : Nat) : Int) := by omega
  have h2 : ∀ a : Fin 256, bits .or .u8 ((a.val : Nat) : Int) 128 = ((a.val ||| 128 : Nat) : Int) := by decide +kernel
  have := h2 ⟨n % 256, by omega⟩
  simp only at this
  rw [h0, this, or128, UInt8.toNat_ofNat']
  omega
theorem low_val (n : Nat) : ((n : Int) % 256) = (((UInt8.ofNat n).toNat : Nat) : Int) := by rw [UInt8.toNat_ofNat']; omega
theorem ofNat_mod (n : Nat) : (((UInt8.ofNat n).toNat : Nat) : Int) = (n : Int) % 256 := by rw [UInt8.toNat_ofNat']; omega
theorem ofInt_u64n (a : Nat) (ha : a < 18446744073709551616) : (BitVec.ofInt 64 (a : Int)).toNat = a := by
  rw [BitVec.ofInt_natCast, BitVec.toNat_ofNat]; exact Nat.mod_eq_of_lt ha
theorem u64_and_natn (a b : Nat) (ha : a < 18446744073709551616) (hb : b < 18446744073709551616) : bits .and .u64 (a : Int) (b : Int) = ((a &&& b : Nat) : Int) := by
  have hx : a &&& b ≤ a := Nat.and_le_left
  show IntKind.u64.wrap ((BitVec.ofInt 64 (a : Int) &&& BitVec.ofInt 64 (b : Int)).toNat : Int) = _
  rw [BitVec.toNat_and, ofInt_u64n a ha, ofInt_u64n b hb, IntKind.wrap_u64]
  omega
theorem and127 (m : Nat) (h : m < 18446744073709551616) : bits .and .u64 (m : Int) 127 = ((m % 128 : Nat) : Int) := by
  have := u64_and_natn m 127 h (by omega)
  rw [show (127 : Nat) = 2 ^ 7 - 1 from rfl, Nat.and_two_pow_sub_one_eq_mod] at this
  exact this
end Go.Proofs.Ytfnmpdohpbcegaa
