/- What reads33 goes through. -/
import Derived.Test.YtfnmpdohpbcegaaReader3
namespace Go.Proofs.Ytfnmpdohpbcegaa

/-- A reader after it was asked for a thing of a kind. -/
def stepK (kk most : Nat) (f : Bool) (l : List UInt8) : Bool × List UInt8 :=
  if kk = 2 then ((textS f l most).1, (textS f l most).2.1)
  else if kk = 3 then ((flagS f l).1, (flagS f l).2.1)
  else ((numS f l).1, (numS f l).2.1)
/-- How many things are told. -/
def runK (most : Nat) : List UInt8 → Bool → List UInt8 → Nat
  | [], _, _ => 0
  | c :: ks, f, l => (if (stepK (c.toNat % 4) most f l).1 = true then 1 else 0) + runK most ks (stepK (c.toNat % 4) most f l).1 (stepK (c.toNat % 4) most f l).2

theorem begN_many (l : List UInt8) (i n : Nat) (hn : n < 128 ^ i) (h : 2 ≤ (begN l i n).2) : 128 ≤ (begN l i n).1 := by
  induction l generalizing i n with
  | nil => simp [begN] at h
  | cons c l ih =>
    unfold begN at h ⊢
    by_cases h1 : 10 ≤ i
    · simp [h1] at h
    rw [if_neg h1] at h ⊢
    by_cases h2 : (i = 9 ∧ 1 < c.toNat % 128) ∨ (0 < i ∧ c.toNat = 0)
    · simp [h2] at h
    rw [if_neg h2] at h ⊢
    have hj := join7 hn (by omega : c.toNat % 128 < 128) (by omega : i < 10) (fun h => by omega)
    by_cases h3 : c.toNat < 128
    · rw [if_pos h3] at h ⊢
      simp only at h ⊢
      have hi : 1 ≤ i := by omega
      have hc : 1 ≤ c.toNat % 128 := by omega
      have hp : 128 ^ 1 ≤ 128 ^ i := Nat.pow_le_pow_right (by omega) hi
      have := Nat.mul_le_mul hc hp
      omega
    · rw [if_neg h3] at h ⊢
      exact ih _ _ hj.2.1 h
theorem begN_le (l : List UInt8) (i n : Nat) : (begN l i n).2 = 0 ∨ (i < (begN l i n).2 ∧ (begN l i n).2 ≤ i + l.length) := by
  induction l generalizing i n with
  | nil => exact Or.inl rfl
  | cons c l ih =>
    unfold begN
    split
    · exact Or.inl rfl
    · split
      · exact Or.inl rfl
      · split
        · right; simp
        · rcases ih (i + 1) (n + c.toNat % 128 * 128 ^ i) with h | h
          · exact Or.inl h
          · right
            simp only [List.length_cons]
            omega
end Go.Proofs.Ytfnmpdohpbcegaa
