/- begins33, and what it tells. -/
import Derived.Test.YtfnmpdohpbcegaaPack2
namespace Go.Proofs.Ytfnmpdohpbcegaa
open Go Go.RowKit Go.ChangeShapes

/-- The number that begins bytes, i bytes of it (n) being read, and how many bytes it has; 0: none. -/
def begN : List UInt8 → Nat → Nat → Nat × Nat
  | [], _, _ => (0, 0)
  | c :: l, i, n =>
    if 10 ≤ i then (0, 0)
    else if (i = 9 ∧ 1 < c.toNat % 128) ∨ (0 < i ∧ c.toNat = 0) then (0, 0)
    else if c.toNat < 128 then (n + c.toNat % 128 * 128 ^ i, i + 1)
    else begN l (i + 1) (n + c.toNat % 128 * 128 ^ i)

theorem and127_u8 (c : UInt8) : IntKind.u64.wrap (bits .and .u8 (c.toNat : Int) 127) = ((c.toNat % 128 : Nat) : Int) := by
  have h2 : ∀ a : Fin 256, IntKind.u64.wrap (bits .and .u8 ((a.val : Nat) : Int) 127) = ((a.val % 128 : Nat) : Int) := by decide +kernel
  exact h2 ⟨c.toNat, c.toNat_lt⟩
theorem u64_or_natn (a b : Nat) (ha : a < 18446744073709551616) (hb : b < 18446744073709551616) : bits .or .u64 (a : Int) (b : Int) = ((a ||| b : Nat) : Int) := by
  have hx : a ||| b < 2 ^ 64 := Nat.or_lt_two_pow ha hb
  show IntKind.u64.wrap ((BitVec.ofInt 64 (a : Int) ||| BitVec.ofInt 64 (b : Int)).toNat : Int) = _
  rw [BitVec.toNat_or, ofInt_u64n a ha, ofInt_u64n b hb, IntKind.wrap_u64]
  omega
theorem join7 {n x k : Nat} (hn : n < 128 ^ k) (hx : x < 128) (hk : k < 10) (hk9 : k = 9 → x ≤ 1) :
    bits .or .u64 (n : Int) (IntKind.u64.wrap ((x : Int) * 2 ^ (7 * k))) = ((n + x * 128 ^ k : Nat) : Int) ∧ n + x * 128 ^ k < 128 ^ (k + 1) ∧ n + x * 128 ^ k < 18446744073709551616 := by
  have hb : n + x * 128 ^ k < 128 ^ (k + 1) := by
    have : x * 128 ^ k ≤ 127 * 128 ^ k := Nat.mul_le_mul_right _ (by omega)
    rw [Nat.pow_succ]; omega
  have h64 : n + x * 128 ^ k < 18446744073709551616 := by
    rcases Nat.lt_or_ge k 9 with h | h
    · exact Nat.lt_of_lt_of_le hb (Nat.le_trans (Nat.pow_le_pow_right (by omega) (show k + 1 ≤ 9 by omega)) (by decide))
    · obtain rfl : k = 9 := by omega
      have h1 := hk9 rfl
      have : x * 128 ^ 9 ≤ 1 * 128 ^ 9 := Nat.mul_le_mul_right _ h1
      have h9 : (128 : Nat) ^ 9 = 9223372036854775808 := by decide
      omega
  have hp : x * 2 ^ (7 * k) = x * 128 ^ k := by rw [Nat.pow_mul]
  have hw : IntKind.u64.wrap ((x : Int) * 2 ^ (7 * k)) = ((x * 128 ^ k : Nat) : Int) := by
    rw [show ((x : Int) * 2 ^ (7 * k)) = ((x * 2 ^ (7 * k) : Nat) : Int) by simp, hp, IntKind.wrap_u64]
    omega
  refine ⟨?_, hb, h64⟩
  rw [hw, u64_or_natn _ _ (by omega) (by omega), ← hp]
  congr 1
  have hn2 : n < 2 ^ (7 * k) := by rw [Nat.pow_mul]; exact hn
  rw [Nat.or_comm, nat_join (7 * k) _ _ (Nat.mul_mod_left _ _) hn2, Nat.add_comm]

set_option maxRecDepth 100000 in
set_option maxHeartbeats 4000000 in
theorem begins_try (l : List UInt8) (w : World) (hl : l.length ≤ 9223372036854775000) :
    Calls Try.prog 58 #[.string (bs l)] w fun e w' => e = .returned (.tuple #[.int .u64 ((begN l 0 0).1 : Int), .int .i64 ((begN l 0 0).2 : Int)]) ∧ w = w' := by
  have hs := bs_size l
  go_enter Try.func58, Try.ntmps58
  go_wp2_with fail
  go_loopw [4, 5] (fun x i w' => ∃ (k n : Nat), k ≤ l.length ∧ k ≤ 10 ∧ x = .int .u64 (n : Int) ∧ i = .int .i64 k ∧ n < 128 ^ k ∧ begN l 0 0 = begN (l.drop k) k n ∧ w' = w) (fun _ i _ => 10 - (intOf i).toNat)
  case atStart => exact ⟨0, 0, by omega, by omega, rfl, rfl, by simp, by simp, rfl⟩
  case round =>
    obtain ⟨k, n, hk, hk10, rfl, rfl, hn, hb, rfl⟩ := hrel
    by_cases h10 : 10 ≤ k
    · obtain rfl : k = 10 := by omega
      have hb2 : begN l 0 0 = (0, 0) := by
        rw [hb]
        cases l.drop 10 with
        | nil => rfl
        | cons c r => simp [begN]
      have HB := Lib.hid hb2
      clear hb hb2 hn
      by_cases h10l : l.length = 10
      all_goals
        go_wp2_with fail
        go_ret2
        rw [HB.out]
        exact ⟨rfl, rfl⟩
    by_cases hlt : k < l.length
    · have hge : (bs l)[k]'(by omega) = l[k] := by show l.toArray[k] = _; simp
      rw [List.drop_eq_getElem_cons hlt] at hb
      have hx := and127_u8 l[k]
      have hcl := l[k].toNat_lt
      generalize l[k] = c at *
      obtain ⟨x, hxe⟩ : ∃ x, c.toNat % 128 = x := ⟨_, rfl⟩
      rw [hxe] at hx
      simp only [begN, hxe] at hb
      rw [if_neg h10] at hb
      have hx128 : x < 128 := by omega
      by_cases hbad : (k = 9 ∧ 1 < x) ∨ (0 < k ∧ c.toNat = 0)
      · rw [if_pos hbad] at hb
        have HB := Lib.hid hb
        clear hb hn
        rcases hbad with ⟨rfl, h1⟩ | ⟨h1, h2⟩
        · go_wp2_with fail
          go_ret2
          rw [HB.out]
          exact ⟨rfl, rfl⟩
        · obtain rfl : x = 0 := by omega
          have hx0 : IntKind.u64.wrap (bits .and .u8 0 127) = 0 := by decide +kernel
          by_cases h9 : k = 9
          · subst h9
            go_wp2_with fail
            go_ret2
            rw [HB.out]
            exact ⟨rfl, rfl⟩
          · go_wp2_with fail
            go_ret2
            rw [HB.out]
            exact ⟨rfl, rfl⟩
      · rw [if_neg hbad] at hb
        have hj := join7 hn hx128 (by omega : k < 10) (fun h => by omega)
        have hb9 : k = 9 → x ≤ 1 := fun h => by omega
        have hb0 : 0 < k → 0 < c.toNat := fun h => by omega
        obtain ⟨hj1, hj2, hj3⟩ := hj
        generalize n + x * 128 ^ k = m at *
        by_cases hlast : c.toNat < 128
        · rw [if_pos hlast] at hb
          have HB := Lib.hid hb
          have HJ2 := Lib.hid hj2
          clear hb hn hj2 hbad
          by_cases h9 : k = 9
          · subst h9
            have hx1 := hb9 rfl
            have hc0 := hb0 (by omega)
            have hcz : ((c.toNat : Int) == 0) = false := beq_eq_false_iff_ne.2 (by omega)
            have hj : bits .or .u64 (n : Int) ((x : Int) * 9223372036854775808) = (m : Int) := by
              rw [IntKind.wrap_u64, show ((2 : Int) ^ (7 * 9)) = 9223372036854775808 from rfl] at hj1
              rw [← hj1]; congr 1; omega
            clear hb9 hb0 hc0 hj1
            go_wp2_with fail
            go_ret2
            rw [HB.out]
            exact ⟨rfl, rfl⟩
          · by_cases h0 : k = 0
            · subst h0
              have hj : bits .or .u64 (n : Int) (x : Int) = (m : Int) := by
                rw [IntKind.wrap_u64, show ((2 : Int) ^ (7 * 0)) = 1 from rfl] at hj1
                rw [← hj1]; congr 1; omega
              clear hb9 hb0 hj1
              go_wp2_with fail
              go_ret2
              rw [HB.out]
              exact ⟨rfl, rfl⟩
            · have hc0 := hb0 (by omega)
              have hcz : ((c.toNat : Int) == 0) = false := beq_eq_false_iff_ne.2 (by omega)
              clear hb9 hb0 hc0
              go_wp2_with fail
              go_ret2
              rw [HB.out]
              exact ⟨rfl, rfl⟩
        · rw [if_neg hlast] at hb
          have HB := Lib.hid hb
          have HJ2 := Lib.hid hj2
          clear hb hn hj2 hbad
          by_cases h9 : k = 9
          · subst h9
            have hx1 := hb9 rfl
            have hc0 := hb0 (by omega)
            have hcz : ((c.toNat : Int) == 0) = false := beq_eq_false_iff_ne.2 (by omega)
            have hj : bits .or .u64 (n : Int) ((x : Int) * 9223372036854775808) = (m : Int) := by
              rw [IntKind.wrap_u64, show ((2 : Int) ^ (7 * 9)) = 9223372036854775808 from rfl] at hj1
              rw [← hj1]; congr 1; omega
            clear hb9 hb0 hc0 hj1
            go_wp2_with fail
            go_roundw
            case rel => exact ⟨10, m, by omega, by omega, rfl, rfl, HJ2.out, HB.out, trivial⟩
            case measure => simp [intOf]
          · by_cases h0 : k = 0
            · subst h0
              have hj : bits .or .u64 (n : Int) (x : Int) = (m : Int) := by
                rw [IntKind.wrap_u64, show ((2 : Int) ^ (7 * 0)) = 1 from rfl] at hj1
                rw [← hj1]; congr 1; omega
              clear hb9 hb0 hj1
              go_wp2_with fail
              go_roundw
              case rel => exact ⟨1, m, by omega, by omega, rfl, rfl, HJ2.out, HB.out, trivial⟩
              case measure => simp [intOf]
            · have hc0 := hb0 (by omega)
              have hcz : ((c.toNat : Int) == 0) = false := beq_eq_false_iff_ne.2 (by omega)
              clear hb9 hb0 hc0
              go_wp2_with fail
              go_roundw
              case rel => exact ⟨k + 1, m, by omega, by omega, rfl, by go_num, HJ2.out, HB.out, trivial⟩
              case measure => simp [intOf]; omega
    · obtain rfl : k = l.length := by omega
      have HB := Lib.hid hb
      clear hb hn
      go_wp2_with fail
      go_ret2
      rw [HB.out]
      simp [begN]
end Go.Proofs.Ytfnmpdohpbcegaa
