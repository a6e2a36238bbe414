/- The check sum, bit by bit and by halves of bytes. -/
namespace Go.Proofs.Ytfnmpdohpbcegaa

def polyN : Nat := 14514072000185962306
/-- One bit of a register. -/
def bit1 (r : Nat) : Nat := r / 2 ^^^ r % 2 * polyN
def bits4 (r : Nat) : Nat := bit1 (bit1 (bit1 (bit1 r)))
def bitsN : Nat → Nat → Nat
  | 0, r => r
  | n + 1, r => bit1 (bitsN n r)

theorem polyN_lt : polyN < 18446744073709551616 := by decide
theorem bit1_lt {r : Nat} (h : r < 18446744073709551616) : bit1 r < 18446744073709551616 := by
  unfold bit1
  have h1 : r / 2 < 2 ^ 64 := by omega
  have h2 : r % 2 * polyN < 2 ^ 64 := by
    have := polyN_lt
    rcases Nat.mod_two_eq_zero_or_one r with h | h <;> rw [h] <;> omega
  exact Nat.xor_lt_two_pow h1 h2
theorem bitsN_lt {r : Nat} (h : r < 18446744073709551616) (n : Nat) : bitsN n r < 18446744073709551616 := by
  induction n with
  | zero => exact h
  | succ n ih => exact bit1_lt ih
theorem bits4_eq (r : Nat) : bits4 r = bitsN 4 r := rfl

theorem xor_div2 (a b : Nat) : (a ^^^ b) / 2 = a / 2 ^^^ b / 2 := by
  have := Nat.shiftRight_xor_distrib (a := a) (b := b) (i := 1)
  simpa [Nat.shiftRight_eq_div_pow] using this
theorem xor_mod2 (a b : Nat) : (a ^^^ b) % 2 = (a % 2 + b % 2) % 2 := by
  have h := Nat.xor_mod_two_pow (a := a) (b := b) (n := 1)
  rw [Nat.pow_one] at h
  rw [h]
  rcases Nat.mod_two_eq_zero_or_one a with ha | ha <;> rcases Nat.mod_two_eq_zero_or_one b with hb | hb <;> rw [ha, hb] <;> rfl
theorem xor_div16 (a b : Nat) : (a ^^^ b) / 16 = a / 16 ^^^ b / 16 := by
  have := Nat.shiftRight_xor_distrib (a := a) (b := b) (i := 4)
  simpa [Nat.shiftRight_eq_div_pow] using this
theorem xor_mod16 (a b : Nat) : (a ^^^ b) % 16 = a % 16 ^^^ b % 16 := by
  have h := Nat.xor_mod_two_pow (a := a) (b := b) (n := 4)
  simpa using h
theorem bit1_xor (a b : Nat) : bit1 (a ^^^ b) = bit1 a ^^^ bit1 b := by
  unfold bit1
  rw [xor_div2, xor_mod2]
  rcases Nat.mod_two_eq_zero_or_one a with ha | ha <;> rcases Nat.mod_two_eq_zero_or_one b with hb | hb <;> rw [ha, hb] <;> simp
  · rw [Nat.xor_assoc]
  · rw [Nat.xor_assoc, Nat.xor_assoc, Nat.xor_comm (b / 2) polyN]
  · rw [Nat.xor_assoc, Nat.xor_comm polyN, Nat.xor_assoc, Nat.xor_self, Nat.xor_zero]
theorem bit1_even (q : Nat) : bit1 (2 * q) = q := by
  unfold bit1
  rw [show 2 * q / 2 = q by omega, show 2 * q % 2 = 0 by omega]; simp
theorem split16 (r : Nat) : r = 16 * (r / 16) ^^^ r % 16 := by
  have h1 := xor_div16 (16 * (r / 16)) (r % 16)
  have h2 := xor_mod16 (16 * (r / 16)) (r % 16)
  rw [show 16 * (r / 16) / 16 = r / 16 by omega, show r % 16 / 16 = 0 by omega, Nat.xor_zero] at h1
  rw [show 16 * (r / 16) % 16 = 0 by omega, show r % 16 % 16 = r % 16 by omega, Nat.zero_xor] at h2
  omega
theorem half_step (r : Nat) : bits4 (r % 16) ^^^ r / 16 = bits4 r := by
  conv => rhs; rw [split16 r]
  unfold bits4
  rw [bit1_xor, bit1_xor, bit1_xor, bit1_xor]
  rw [show 16 * (r / 16) = 2 * (2 * (2 * (2 * (r / 16)))) by omega, bit1_even, bit1_even, bit1_even, bit1_even, Nat.xor_comm]
/-- One byte. -/
def byte1 (r c : Nat) : Nat := bitsN 8 (r ^^^ c)
def crc (r : Nat) (l : List UInt8) : Nat := l.foldl (fun r c => byte1 r c.toNat) r
def notN (r : Nat) : Nat := 18446744073709551615 - r
def sumN (l : List UInt8) : Nat := notN (crc 18446744073709551615 l)
def moreN (s : Nat) (l : List UInt8) : Nat := notN (crc (notN s) l)
theorem crc_lt {r : Nat} (h : r < 18446744073709551616) (l : List UInt8) : crc r l < 18446744073709551616 := by
  unfold crc
  induction l generalizing r with
  | nil => exact h
  | cons c l ih =>
    refine ih (bitsN_lt (Nat.xor_lt_two_pow (n := 64) h ?_) 8)
    have := c.toNat_lt
    omega
theorem notN_lt (r : Nat) : notN r < 18446744073709551616 := by unfold notN; omega
theorem notN_notN {r : Nat} (h : r < 18446744073709551616) : notN (notN r) = r := by unfold notN; omega
theorem sumN_lt (l : List UInt8) : sumN l < 18446744073709551616 := notN_lt _
theorem crc_append (r : Nat) (a b : List UInt8) : crc r (a ++ b) = crc (crc r a) b := by unfold crc; rw [List.foldl_append]
theorem moreN_sumN (a b : List UInt8) : moreN (sumN a) b = sumN (a ++ b) := by
  unfold moreN sumN
  rw [notN_notN (crc_lt (by omega) a), crc_append]
theorem byte1_halves (r c : Nat) : byte1 r c = bits4 (bits4 (r ^^^ c)) := rfl
/-- The bytes of a number, the least first. -/
def le8 : Nat → Nat → List UInt8
  | 0, _ => []
  | n + 1, x => UInt8.ofNat x :: le8 n (x / 256)
def sealedN (l : List UInt8) : List UInt8 := l ++ le8 8 (sumN l)
end Go.Proofs.Ytfnmpdohpbcegaa
