/- TopCounts answers true. -/
import Derived.Test.YtfnmpdohpbcegaaCounts
namespace Go.Proofs.Ytfnmpdohpbcegaa
open Go.RowKit

set_option maxRecDepth 100000 in
set_option maxHeartbeats 1000000 in
theorem known33c_any (w : World) : Calls Try.prog 11 #[] w fun e w' => e = .returned (.bool true) ∧ Below w.heap.size w w' := by
  have e1 : addl [1099511627776, 1] = 1099511627776 := by decide
  have e2 : qty (subq (qty 3) (qty 5)) = 0 := by decide
  have e3 : qty (mulq (qty 1073741824) (qty 1073741824)) = 1099511627776 := by decide
  have e4 : qty (ceilq (qty 7) (qty 2)) = 4 := by decide
  have e5 : qty (ceilq (qty 0) (qty 0)) = 0 := by decide
  have e6 : qty (ceilq (qty 1) (qty 0)) = 1099511627776 := by decide
  have e7 : twiceN (min 64 (4 : Int).toNat) (qty 3) = 48 := by decide
  have e8 : qty (mulq (qty (qty (ceilq (qty 5) (qty 4)))) (qty 4)) = 8 := by decide
  go_enter Try.func11, Try.ntmps11
  go_wp2_with (first | (go_at_call 32; go_must (refine (add_any _ _ [1099511627776, 1] _ (by simp) (Reads.new _ _ _ 2 1 rfl)).mono ?_); rintro e w' ⟨rfl, rfl⟩) | (go_at_call 33; refine (sub_any _ _ _).mono ?_; rintro e w' ⟨rfl, rfl⟩) | (go_at_call 34; refine (mul_any _ _ _).mono ?_; rintro e w' ⟨rfl, rfl⟩) | (go_at_call 35; refine (ceil_any _ _ _).mono ?_; rintro e w' ⟨rfl, rfl⟩) | (go_at_call 36; refine (twice_any _ _ _ (by omega) (by omega)).mono ?_; rintro e w1 ⟨rfl, hb1⟩) | (go_at_call 37; refine (grain_pos _ _ _ (by decide)).mono ?_; rintro e w' ⟨rfl, rfl⟩))
  refine (counts_any _ _ _ _ _ [1099511627776, 1] _ (by omega) (by omega) (by simp) (Reads.new _ _ _ 2 1 rfl) (by simp)).mono ?_
  rintro e w2 ⟨rfl, hb2⟩
  go_wp2_with fail
  refine (counts_any _ _ _ _ _ [] _ (by omega) (by omega) (by simp) (Reads.none_ (B := 0)) (by simp)).mono ?_
  rintro e w3 ⟨rfl, hb3⟩
  go_wp2_with fail
  go_ret
  refine ⟨rfl, ?_⟩
  have h1 := (Below.refl w.heap.size w).alloc (Nat.le_refl _) (.cells #[.int .i64 1099511627776, .int .i64 1] 2)
  have h2 := h1.trans (hb1.mono h1.size)
  have h3 := h2.alloc h2.size (.cells #[.int .i64 1099511627776, .int .i64 1] 2)
  have h4 := h3.trans (hb2.mono h3.size)
  exact h4.trans (hb3.mono h4.size)

theorem topcounts_any {B : Nat} (a b n : Int) (A : Option Addr) (c : Nat) (l : List Int) (w : World) (hn0 : -9223372036854775808 ≤ n) (hn1 : n ≤ 9223372036854775807) (hr : Reads w B 1 A l.length (ints l)) (hB : B ≤ w.heap.size) (hmax : l.length ≤ 9223372036854775807) :
    Calls Try.prog 3 #[.int .i64 a, .int .i64 b, .slice A l.length c, .int .i64 n] w fun e w' => e = .returned (.bool true) ∧ Below w.heap.size w w' := by
  by_cases h : 100 < l.length
  · go_enter Try.func3, Try.ntmps3
    go_wp2_with (go_at_call 11; refine (known33c_any _).mono ?_; rintro e w1 ⟨rfl, hb1⟩)
    go_ret
    exact ⟨rfl, hb1⟩
  · have hl : l.length ≤ 140737488351232 := by omega
    go_enter Try.func3, Try.ntmps3
    go_wp2_with (first | (go_at_call 11; refine (known33c_any _).mono ?_; rintro e w2 ⟨rfl, hb2⟩) | (go_at_call 12; refine (counts_any _ _ _ _ _ _ _ hn0 hn1 hl hr hB).mono ?_; rintro e w1 ⟨rfl, hb1⟩))
    go_ret
    exact ⟨rfl, hb1.trans (hb2.mono hb1.size)⟩
end Go.Proofs.Ytfnmpdohpbcegaa
