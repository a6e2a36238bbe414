/- Contracts of package sat's functions: sums. -/
import Derived.Test.YtfnmpdohpbcegaaSat
import Derived.Test.YtfnmpdohpbcegaaMem
namespace Go.Proofs.Ytfnmpdohpbcegaa
open Go.RowKit

def ints (l : List Int) : List Value := l.map (Value.int .i64)
def add1 (s a : Int) : Int := qty (addq (qty s) (qty a))
def addl (l : List Int) : Int := l.foldl add1 0

theorem ints_at {l : List Int} {k : Nat} {u : Value} (h : (ints l)[k]? = some u) : ∃ hk : k < l.length, u = .int .i64 l[k] := by
  have hk : k < l.length := by
    rcases Nat.lt_or_ge k l.length with h1 | h1
    · exact h1
    · rw [List.getElem?_eq_none (by simpa [ints] using h1)] at h; cases h
  refine ⟨hk, ?_⟩
  rw [List.getElem?_eq_getElem (by simpa [ints] using hk)] at h
  injection h with h
  rw [← h]; simp [ints]

theorem addl_step (l : List Int) (k : Nat) (hk : k < l.length) : addl (l.take (k + 1)) = add1 (addl (l.take k)) l[k] := by
  unfold addl
  rw [List.take_succ_eq_append_getElem hk, List.foldl_append]; rfl

theorem add_any {B : Nat} (A : Option Addr) (c : Nat) (l : List Int) (w : World) (hl : l.length ≤ 140737488351232) (hr : Reads w B 1 A l.length (ints l)) :
    Calls Try.prog 32 #[.slice A l.length c] w fun e w' => e = .returned (.int .i64 (addl l)) ∧ w = w' := by
  go_enter Try.func32, Try.ntmps32
  go_wp2_with fail
  go_loop [3, 8] (fun s i => ∃ k : Nat, k ≤ l.length ∧ i = .int .i64 k ∧ s = .int .i64 (addl (l.take k))) (fun _ i => l.length - (intOf i).toNat)
  case atStart => exact ⟨0, Nat.zero_le _, rfl, rfl⟩
  case round =>
    obtain ⟨k, hk, rfl, rfl⟩ := hrel
    by_cases hlt : k < l.length
    · obtain ⟨ad, u, rfl, _, hx, hc⟩ := hr.at_ hlt
      obtain ⟨_, rfl⟩ := ints_at hx
      have hs := addl_step l k hlt
      have H := Lib.hid hs
      clear hs hx
      go_wp2_with (go_at_call 134; refine (two_add _ _ _).mono ?_; rintro e w' ⟨rfl, rfl⟩)
      go_round
      case rel => exact ⟨k + 1, by omega, by go_num, by rw [H.out]; rfl⟩
      case measure => simp [intOf]; omega
    · go_wp2_with fail
      go_ret
      exact ⟨ret_i64 (by rw [List.take_of_length_le (by omega)]), rfl⟩
def twiceN : Nat → Int → Int
  | 0, a => a
  | n + 1, a => add1 (add1 0 (twiceN n a)) (twiceN n a)

theorem twice_any (a n : Int) (w : World) (h0 : -9223372036854775808 ≤ n) (h1 : n ≤ 9223372036854775807) :
    Calls Try.prog 36 #[.int .i64 a, .int .i64 n] w fun e w' => e = .returned (.int .i64 (twiceN (min 64 n.toNat) (qty a))) ∧ Below w.heap.size w w' := by
  obtain ⟨x, hx⟩ : ∃ x, (if n < 0 then (0 : Int) else n) = x := ⟨_, rfl⟩
  obtain ⟨y, hy⟩ : ∃ y, (if 64 < x then (64 : Int) else x) = y := ⟨_, rfl⟩
  have hm : min 64 n.toNat = y.toNat := by subst hy hx; split <;> split <;> omega
  have hy0 : 0 ≤ y := by subst hy hx; split <;> split <;> omega
  have hy1 : y ≤ 64 := by subst hy hx; split <;> split <;> omega
  rw [hm]
  clear hm
  go_enter Try.func36, Try.ntmps36
  go_wp2_with (go_at_call 39; refine (of_any _ _).mono ?_; rintro e w' ⟨rfl, rfl⟩)
  clear hx hy
  go_loopw [0, 10] (fun s i w' => Below w.heap.size w w' ∧ ∃ k : Nat, k ≤ y.toNat ∧ i = .int .i64 k ∧ s = .int .i64 (twiceN k (qty a))) (fun _ i _ => y.toNat - (intOf i).toNat)
  case atStart => exact ⟨Below.refl _ _, 0, Nat.zero_le _, rfl, rfl⟩
  case round =>
    obtain ⟨hb, k, hk, rfl, rfl⟩ := hrel
    by_cases hlt : k < y.toNat
    · go_wp2_with (go_at_call 32; go_must (refine (add_any _ _ [twiceN k (qty a), twiceN k (qty a)] _ (by simp) (Reads.new _ _ _ 2 1 rfl)).mono ?_); rintro e w' ⟨rfl, rfl⟩)
      go_roundw
      case rel => exact ⟨hb.alloc hb.size _, k + 1, by omega, by go_num, rfl⟩
      case measure => simp [intOf]; omega
    · go_wp2_with fail
      go_ret
      obtain rfl : k = y.toNat := by omega
      exact ⟨rfl, hb⟩

theorem grain_any (a g : Int) (w : World) :
    Calls Try.prog 37 #[.int .i64 a, .int .i64 g] w fun e w' => e = .returned (.int .i64 (if qty g = 0 then qty a else qty (mulq (qty (qty (ceilq (qty a) (qty g)))) (qty g)))) ∧ w = w' := by
  by_cases h : qty g = 0
  · have H : (qty g == 0) = true := by simpa using h
    rw [if_pos h]
    clear h
    go_enter Try.func37, Try.ntmps37
    go_wp2_with (go_at_call 39; refine (of_any _ _).mono ?_; rintro e w' ⟨rfl, rfl⟩)
    go_ret
    exact ⟨rfl, rfl⟩
  · have H : (qty g == 0) = false := by simpa using h
    rw [if_neg h]
    clear h
    go_enter Try.func37, Try.ntmps37
    go_wp2_with (first | (go_at_call 39; refine (of_any _ _).mono ?_; rintro e w' ⟨rfl, rfl⟩) | (go_at_call 35; refine (ceil_any _ _ _).mono ?_; rintro e w' ⟨rfl, rfl⟩) | (go_at_call 34; refine (mul_any _ _ _).mono ?_; rintro e w' ⟨rfl, rfl⟩))
    go_ret
    exact ⟨rfl, rfl⟩
end Go.Proofs.Ytfnmpdohpbcegaa
