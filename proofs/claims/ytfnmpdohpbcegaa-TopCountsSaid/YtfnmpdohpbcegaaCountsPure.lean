/- The plain laws of quantities: what package sat computes is what the statement computes. -/
import Derived.Test.YtfnmpdohpbcegaaSat2
namespace Go.Proofs.Ytfnmpdohpbcegaa

theorem qty_of {n : Int} (h0 : 0 ≤ n) (h1 : n ≤ 1099511627776) : qty n = n := by unfold qty; split <;> (try split) <;> omega
theorem qty_qty (n : Int) : qty (qty n) = qty n := qty_of (qty_le n).1 (qty_le n).2
theorem qty_top {n : Int} (h1 : 1099511627776 ≤ n) : qty n = 1099511627776 := by unfold qty; split <;> (try split) <;> omega
theorem qty_neg {n : Int} (h1 : n ≤ 0) : qty n = 0 := by unfold qty; split <;> (try split) <;> omega

theorem add1_eq (s a : Int) (h0 : 0 ≤ s) (h1 : s ≤ 1099511627776) : add1 s a = if 1099511627776 < s + qty a then 1099511627776 else s + qty a := by
  have := qty_le a
  unfold add1 addq
  rw [qty_of h0 h1]
  split
  · exact qty_top (by omega)
  · exact qty_of (by omega) (by omega)
theorem add1_le (s a : Int) : 0 ≤ add1 s a ∧ add1 s a ≤ 1099511627776 := qty_le _
theorem addl_le (l : List Int) : 0 ≤ addl l ∧ addl l ≤ 1099511627776 := by
  unfold addl
  have : ∀ (l : List Int) (s : Int), 0 ≤ s ∧ s ≤ 1099511627776 → 0 ≤ l.foldl add1 s ∧ l.foldl add1 s ≤ 1099511627776 := by
    intro l
    induction l with
    | nil => exact fun s h => h
    | cons a l ih => exact fun s _ => ih _ (add1_le s a)
  exact this l 0 (by omega)

/-- Doubling, up to the top. -/
def dbl (v : Int) : Int := if 1099511627776 < 2 * v then 1099511627776 else 2 * v
def dblN : Nat → Int → Int
  | 0, a => a
  | n + 1, a => dbl (dblN n a)
theorem dbl_le {v : Int} (h0 : 0 ≤ v) : 0 ≤ dbl v ∧ dbl v ≤ 1099511627776 := by unfold dbl; split <;> omega
theorem dblN_le {a : Int} (h0 : 0 ≤ a) (h1 : a ≤ 1099511627776) (n : Nat) : 0 ≤ dblN n a ∧ dblN n a ≤ 1099511627776 := by
  induction n with
  | zero => exact ⟨h0, h1⟩
  | succ n ih => exact dbl_le ih.1
theorem twiceN_eq {a : Int} (h0 : 0 ≤ a) (h1 : a ≤ 1099511627776) (n : Nat) : twiceN n a = dblN n a := by
  induction n with
  | zero => rfl
  | succ n ih =>
    have hb := dblN_le h0 h1 n
    show add1 (add1 0 (twiceN n a)) (twiceN n a) = dbl (dblN n a)
    rw [ih, add1_eq 0 _ (by omega) (by omega), qty_of hb.1 hb.2, if_neg (by omega), add1_eq _ _ (by omega) (by omega), qty_of hb.1 hb.2]
    unfold dbl
    split <;> split <;> omega
theorem dblN_ge {a : Int} (h0 : 1 ≤ a) (h1 : a ≤ 1099511627776) (n : Nat) : dblN n a = 1099511627776 ∨ 2 ^ n ≤ dblN n a := by
  induction n with
  | zero => right; simpa [dblN] using h0
  | succ n ih =>
    have hb := dblN_le (a := a) (by omega) h1 n
    rcases ih with ih | ih
    · left; show dbl (dblN n a) = _; rw [ih]; rfl
    · show dbl (dblN n a) = _ ∨ _ ≤ dbl (dblN n a)
      unfold dbl
      split
      · exact Or.inl rfl
      · right; rw [Int.pow_succ]; omega
theorem dblN_50 {a : Int} (h0 : 0 ≤ a) (h1 : a ≤ 1099511627776) (n : Nat) (hn : 50 ≤ n) : dblN n a = dblN 50 a := by
  by_cases h : a = 0
  · subst h
    have : ∀ n, dblN n 0 = 0 := by
      intro n
      induction n with
      | zero => rfl
      | succ n ih => show dbl (dblN n 0) = 0; rw [ih]; rfl
    rw [this, this]
  · have top : ∀ n, 50 ≤ n → dblN n a = 1099511627776 := by
      intro n hn
      have hb := dblN_le h0 h1 n
      rcases dblN_ge (a := a) (by omega) h1 n with h | h
      · exact h
      · have : (2 : Int) ^ 50 ≤ 2 ^ n := by exact_mod_cast Nat.pow_le_pow_right (by omega) hn
        have : (2 : Int) ^ 50 = 1125899906842624 := by decide
        omega
    rw [top n hn, top 50 (by omega)]
theorem twice_law {a : Int} (n : Int) : twiceN (min 64 n.toNat) (qty a) = dblN (min 50 n.toNat) (qty a) := by
  have h := qty_le a
  rw [twiceN_eq h.1 h.2]
  by_cases hn : n.toNat ≤ 50
  · rw [show min 64 n.toNat = n.toNat by omega, show min 50 n.toNat = n.toNat by omega]
  · rw [show min 50 n.toNat = 50 by omega, dblN_50 h.1 h.2 _ (by omega)]

theorem mul_small {x y : Int} (hx : 0 ≤ x) (hy : 0 ≤ y) (h : x = 0 ∨ y ≤ 1099511627776 / x) : 0 ≤ x * y ∧ x * y ≤ 1099511627776 := by
  refine ⟨Int.mul_nonneg hx hy, ?_⟩
  by_cases hx0 : x = 0
  · subst hx0; simp
  · have h1 := h.resolve_left hx0
    have := Int.mul_le_mul_of_nonneg_left h1 hx
    have := Int.mul_ediv_self_le (x := 1099511627776) (k := x) hx0
    omega
theorem mul_law {x y : Int} (hx : 0 ≤ x) (hy : 0 ≤ y) :
    qty (mulq x y) = if x = 0 ∨ y ≤ 1099511627776 / x then x * y else 1099511627776 := by
  by_cases h : x = 0 ∨ y ≤ 1099511627776 / x
  · rw [if_pos h]
    have hb := mul_small hx hy h
    have hn : ¬ (y > 0 ∧ x > 1099511627776 / y) := by
      rintro ⟨h1, h2⟩
      have h3 := Int.lt_mul_of_ediv_lt h1 h2
      omega
    unfold mulq
    rw [if_neg hn]
    exact qty_of hb.1 hb.2
  · rw [if_neg h]
    unfold mulq
    by_cases h2 : y > 0 ∧ x > 1099511627776 / y
    · rw [if_pos h2]; rfl
    · rw [if_neg h2]
      refine qty_top ?_
      have hx0 : x ≠ 0 := fun e => h (Or.inl e)
      have h3 : 1099511627776 / x < y := by
        by_cases h4 : y ≤ 1099511627776 / x
        · exact absurd (Or.inr h4) h
        · omega
      have h5 := Int.lt_mul_of_ediv_lt (by omega : 0 < x) h3
      rw [Int.mul_comm] at h5
      omega

theorem ceil_law {x y : Int} (hx : 0 ≤ x) (hx1 : x ≤ 1099511627776) (hy : 0 ≤ y) :
    qty (ceilq x y) = if 0 < y then (x + y - 1) / y else if x = 0 then 0 else 1099511627776 := by
  unfold ceilq
  by_cases h0 : x = 0
  · rw [if_pos h0]
    subst h0
    split
    · rw [qty_of (by omega) (by omega)]
      exact (Int.ediv_eq_zero_of_lt (by omega) (by omega)).symm
    · rfl
  · rw [if_neg h0]
    by_cases h1 : y = 0
    · rw [if_pos h1, if_neg (by omega), if_neg h0]; rfl
    · rw [if_neg h1, if_pos (by omega)]
      have h2 := Int.ediv_nonneg (a := x - 1) (b := y) (by omega) hy
      have h3 := Int.ediv_le_self (a := x - 1) y (by omega)
      rw [qty_of (by omega) (by omega), show x + y - 1 = x - 1 + y * 1 by omega, Int.add_mul_ediv_left _ _ h1]

theorem ceil_mul {x y : Int} (hx : 0 ≤ x) (hy : 0 < y) : 0 ≤ (x + y - 1) / y ∧ (x + y - 1) / y ≤ x + y - 1 ∧ 0 ≤ (x + y - 1) / y * y ∧ (x + y - 1) / y * y ≤ x + y - 1 :=
  ⟨Int.ediv_nonneg (by omega) (by omega), Int.ediv_le_self _ (by omega), Int.mul_nonneg (Int.ediv_nonneg (by omega) (by omega)) (by omega), Int.ediv_mul_le _ (by omega)⟩

theorem grain_law {x y : Int} (hx : 0 ≤ x) (hx1 : x ≤ 1099511627776) (hy : 0 < y) :
    qty (mulq (qty (qty (ceilq x y))) y) = if 1099511627776 < (x + y - 1) / y * y then 1099511627776 else (x + y - 1) / y * y := by
  rw [qty_qty, ceil_law hx hx1 (by omega), if_pos hy]
  have h := ceil_mul hx hy
  rw [mul_law h.1 (by omega)]
  by_cases h2 : (x + y - 1) / y = 0 ∨ y ≤ 1099511627776 / ((x + y - 1) / y)
  · rw [if_pos h2]
    have := mul_small h.1 (by omega) h2
    rw [if_neg (by omega)]
  · rw [if_neg h2]
    split
    · rfl
    · rename_i h3
      exfalso
      apply h2
      by_cases h4 : (x + y - 1) / y = 0
      · exact Or.inl h4
      · right
        apply (Int.le_ediv_iff_mul_le (by omega)).2
        rw [Int.mul_comm]
        omega
end Go.Proofs.Ytfnmpdohpbcegaa
