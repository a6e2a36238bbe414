/- Frames: what stands in bytes. -/
import Derived.Test.YtfnmpdohpbcegaaSum33
namespace Go.Proofs.Ytfnmpdohpbcegaa

/-- A number out of bytes, the least first. -/
def leN : List UInt8 → Nat
  | [] => 0
  | c :: l => c.toNat + 256 * leN l
theorem leN_lt (l : List UInt8) : leN l < 256 ^ l.length := by
  induction l with
  | nil => simp [leN]
  | cons c l ih =>
    have := c.toNat_lt
    simp only [leN, List.length_cons, Nat.pow_succ]
    omega
theorem leN_le8 (k x : Nat) : leN (le8 k x) = x % 256 ^ k := by
  induction k generalizing x with
  | zero => simp [le8, leN, Nat.mod_one]
  | succ k ih =>
    simp only [le8, leN, ih, UInt8.toNat_ofNat']
    rw [Nat.pow_succ' (m := 256) (n := k), Nat.mod_mul]
theorem leN_append (a b : List UInt8) : leN (a ++ b) = leN a + 256 ^ a.length * leN b := by
  induction a with
  | nil => simp [leN]
  | cons c a ih =>
    simp only [List.cons_append, leN, ih, List.length_cons, Nat.pow_succ]
    rw [Nat.mul_add, Nat.add_assoc]
    congr 2
    rw [Nat.mul_comm (256 ^ a.length) 256, Nat.mul_assoc]

/-- How many bytes a head tells of; none: it is no head. -/
def headN (l : List UInt8) : Option Nat :=
  if 12 ≤ l.length ∧ openN (l.take 12) = true ∧ leN (l.take 4) ≤ 262144 then some (leN (l.take 4)) else none
/-- The first frame's text, and what is behind it. -/
def frameN (l : List UInt8) : Option (Nat) :=
  match headN l with
  | none => none
  | some n => if n + 20 ≤ l.length ∧ openN ((l.take (n + 20)).drop 12) = true then some n else none
def textN (l : List UInt8) (n : Nat) : List UInt8 := (l.drop 12).take n
theorem frameN_le {l : List UInt8} {n : Nat} (h : frameN l = some n) : n + 20 ≤ l.length := by
  unfold frameN at h
  split at h
  · cases h
  · split at h
    · injection h with h; omega
    · cases h
def scanN (l : List UInt8) : List (List UInt8) :=
  match h : frameN l with
  | none => []
  | some n => textN l n :: scanN (l.drop (n + 20))
termination_by l.length
decreasing_by have := frameN_le h; simp; omega
def costN (l : List (List UInt8)) : Nat := (l.map fun s => s.length + 20).sum
theorem scanN_none {l : List UInt8} (h : frameN l = none) : scanN l = [] := by
  rw [scanN]
  split
  · rfl
  · rename_i h2; rw [h] at h2; cases h2
theorem scanN_some {l : List UInt8} {n : Nat} (h : frameN l = some n) : scanN l = textN l n :: scanN (l.drop (n + 20)) := by
  rw [scanN]
  split
  · rename_i h2; rw [h] at h2; cases h2
  · rename_i m h2; rw [h] at h2; injection h2 with h2; subst h2; rfl
theorem textN_length {l : List UInt8} {n : Nat} (h : frameN l = some n) : (textN l n).length = n := by
  have := frameN_le h
  simp [textN]; omega

open Go Go.RowKit
theorem ofInt_i64n (a : Nat) (ha : a < 9223372036854775808) : (BitVec.ofInt 64 (a : Int)).toNat = a := by
  rw [BitVec.ofInt_natCast, BitVec.toNat_ofNat]; exact Nat.mod_eq_of_lt (by omega)
theorem i64_or_natn (a b : Nat) (ha : a < 9223372036854775808) (hb : b < 9223372036854775808) : bits .or .i64 (a : Int) (b : Int) = ((a ||| b : Nat) : Int) := by
  have hx : a ||| b < 2 ^ 63 := Nat.or_lt_two_pow (by omega) (by omega)
  show IntKind.i64.wrap ((BitVec.ofInt 64 (a : Int) ||| BitVec.ofInt 64 (b : Int)).toNat : Int) = _
  rw [BitVec.toNat_or, ofInt_i64n a ha, ofInt_i64n b hb, IntKind.wrap_i64]
  omega
theorem or_join (x c k : Nat) (hx : x < 256 ^ k) : x ||| c * 2 ^ (8 * k) = x + 256 ^ k * c := by
  rw [show (256 : Nat) = 2 ^ 8 from rfl, ← Nat.pow_mul] at hx ⊢
  rw [Nat.or_comm, nat_join (8 * k) _ _ (Nat.mul_mod_left _ _) hx, Nat.add_comm, Nat.mul_comm]
theorem or_step {x c k : Nat} (hk : k < 4) (hx : x < 256 ^ k) (hc : c < 256) :
    bits .or .i64 (x : Int) (wrap64 (wrap64 (c : Int) * 2 ^ (8 * k))) = ((x + 256 ^ k * c : Nat) : Int) := by
  have h1 : wrap64 (c : Int) = c := by unfold wrap64; omega
  have hp : 256 ^ k ≤ 256 ^ 3 := Nat.pow_le_pow_right (by omega) (by omega)
  have hc2 : c * 2 ^ (8 * k) ≤ 255 * 256 ^ 3 := by
    rw [Nat.pow_mul]
    exact Nat.mul_le_mul (by omega) hp
  have h2 : wrap64 (wrap64 (c : Int) * 2 ^ (8 * k)) = ((c * 2 ^ (8 * k) : Nat) : Int) := by
    rw [h1]
    have : ((c * 2 ^ (8 * k) : Nat) : Int) = (c : Int) * 2 ^ (8 * k) := by simp
    rw [← this]
    unfold wrap64
    omega
  rw [h2, i64_or_natn _ _ (by omega) (by omega), or_join _ _ _ hx]
theorem leN_snoc (l : List UInt8) (k : Nat) (h : k < l.length) : leN (l.take (k + 1)) = leN (l.take k) + 256 ^ k * l[k].toNat := by
  rw [List.take_succ_eq_append_getElem h, leN_append]
  simp [leN]
  rw [Nat.min_eq_left (by omega)]
end Go.Proofs.Ytfnmpdohpbcegaa
