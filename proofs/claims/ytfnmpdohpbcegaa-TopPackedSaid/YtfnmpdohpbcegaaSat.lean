/- Contracts of package sat's functions. -/
import Derived.Test.YtfnmpdohpbcegaaProg
import Derived.WalkKit
import Derived.WalkLawsBesides
import Derived.WalkSpells
import Derived.Deep.LoopGhost
import Derived.Lib.Hide
namespace Go.Proofs.Ytfnmpdohpbcegaa
open Go.RowKit

/-- A quantity. -/
def qty (n : Int) : Int := if n ≤ 0 then 0 else if n ≥ 1099511627776 then 1099511627776 else n

theorem qty_le (n : Int) : 0 ≤ qty n ∧ qty n ≤ 1099511627776 := by unfold qty; split <;> (try split) <;> omega

theorem ret_i64 {a b : Int} (h : a = b) : Ending.returned (.int .i64 a) = .returned (.int .i64 b) := by rw [h]

theorem of_any (n : Int) (w : World) : Calls Try.prog 39 #[.int .i64 n] w fun e w' => e = .returned (.int .i64 (qty n)) ∧ w = w' := by
  go_enter Try.func39, Try.ntmps39
  go_wp2
  all_goals go_ret
  all_goals exact ⟨ret_i64 (by unfold qty; split at * <;> (try split) <;> (try split) <;> omega), rfl⟩

theorem of33_any (n : Int) (w : World) : Calls Try.prog 38 #[.int .i64 n] w fun e w' => e = .returned (.int .i64 (qty n)) ∧ w = w' := by
  go_enter Try.func38, Try.ntmps38
  go_wp2
  all_goals go_ret
  all_goals exact ⟨ret_i64 (by unfold qty; split at * <;> (try split) <;> (try split) <;> omega), rfl⟩

/-- A function value without captures that computes F of two quantities. -/
def Does2 (f : FuncId) (F : Int → Int → Int) : Prop :=
  ∀ (a b : Int) (w : World), 0 ≤ a → a ≤ 1099511627776 → 0 ≤ b → b ≤ 1099511627776 → Calls Try.prog f #[.int .i64 a, .int .i64 b] w fun e w' => e = .returned (.int .i64 (F a b)) ∧ w = w'

def addq (a b : Int) : Int := a + b
def subq (a b : Int) : Int := a - b
def mulq (a b : Int) : Int := if b > 0 ∧ a > 1099511627776 / b then 1099511627776 else a * b
def ceilq (a b : Int) : Int := if a = 0 then 0 else if b = 0 then 1099511627776 else (a - 1) / b + 1

theorem add1_does : Does2 135 addq := by
  intro a b w _ _ _ _
  go_enter Try.func135, Try.ntmps135
  go_wp2
  go_ret
  exact ⟨rfl, rfl⟩
theorem sub1_does : Does2 136 subq := by
  intro a b w _ _ _ _
  go_enter Try.func136, Try.ntmps136
  go_wp2
  go_ret
  exact ⟨rfl, rfl⟩
theorem mul1_does : Does2 137 mulq := by
  intro a b w ha _ hb _
  by_cases h : 0 < b
  · have h1 : 0 ≤ 1099511627776 / b := Int.ediv_nonneg (by omega) hb
    have h2 : 1099511627776 / b ≤ 1099511627776 := Int.ediv_le_self _ (by omega)
    have h3 : a ≤ 1099511627776 / b → 0 ≤ a * b ∧ a * b ≤ 1099511627776 := fun h => ⟨Int.mul_nonneg ha hb, by
      have := Int.mul_le_mul_of_nonneg_right h hb
      have := Int.ediv_mul_le 1099511627776 (b := b) (by omega)
      omega⟩
    go_enter Try.func137, Try.ntmps137
    go_wp2
    all_goals go_ret
    · exact ⟨ret_i64 (by unfold mulq; rw [if_pos ⟨h, by assumption⟩]), rfl⟩
    · exact ⟨ret_i64 (by unfold mulq; rw [if_neg (by omega)]), rfl⟩
  · have hb : b = 0 := by omega
    subst hb
    go_enter Try.func137, Try.ntmps137
    go_wp2
    all_goals go_ret
    exact ⟨ret_i64 (by unfold mulq; simp), rfl⟩
theorem ceil1_does : Does2 138 ceilq := by
  intro a b w ha _ hb _
  by_cases h0 : a = 0
  · subst h0
    go_enter Try.func138, Try.ntmps138
    go_wp2
    go_ret
    exact ⟨ret_i64 (by unfold ceilq; simp), rfl⟩
  · have H0 : (a == 0) = false := by simpa using h0
    by_cases h1 : b = 0
    · subst h1
      go_enter Try.func138, Try.ntmps138
      go_wp2
      go_ret
      exact ⟨ret_i64 (by unfold ceilq; simp [h0]), rfl⟩
    · have H1 : (b == 0) = false := by simpa using h1
      go_enter Try.func138, Try.ntmps138
      go_wp2
      go_ret
      exact ⟨ret_i64 (by unfold ceilq; rw [if_neg h0, if_neg h1]; have := Int.ediv_nonneg (a := a - 1) (by omega) hb; have := Int.ediv_le_self (a := a - 1) b (by omega); unfold wrap64; omega), rfl⟩

set_option maxRecDepth 100000 in
theorem two_any {f : FuncId} {F : Int → Int → Int} (hin : ∀ args w, (callFunc f args).run Try.prog w = .ok (.enter f args) w) (hf : Does2 f F) (a b : Int) (w : World) :
    Calls Try.prog 134 #[.int .i64 a, .int .i64 b, .func (.func f) #[] #[]] w fun e w' => e = .returned (.int .i64 (qty (F (qty a) (qty b)))) ∧ w = w' := by
  have H := Lib.hid hf
  clear hf
  go_enter Try.func134, Try.ntmps134
  go_wp2_with fail
  refine (of_any _ _).mono ?_
  rintro e w' ⟨rfl, rfl⟩
  go_wp2_with fail
  refine (of_any _ _).mono ?_
  rintro e w' ⟨rfl, rfl⟩
  go_wp2_with fail
  refine (H.out _ _ _ (qty_le a).1 (qty_le a).2 (qty_le b).1 (qty_le b).2).mono ?_
  rintro e w' ⟨rfl, rfl⟩
  go_wp2_with fail
  refine (of_any _ _).mono ?_
  rintro e w' ⟨rfl, rfl⟩
  go_wp2_with fail
  go_ret
  exact ⟨rfl, rfl⟩
theorem two_add (a b : Int) (w : World) : Calls Try.prog 134 #[.int .i64 a, .int .i64 b, .func (.func 135) #[] #[]] w fun e w' => e = .returned (.int .i64 (qty (addq (qty a) (qty b)))) ∧ w = w' :=
  two_any (fun args w => by kernel_rfl) add1_does a b w
theorem two_sub (a b : Int) (w : World) : Calls Try.prog 134 #[.int .i64 a, .int .i64 b, .func (.func 136) #[] #[]] w fun e w' => e = .returned (.int .i64 (qty (subq (qty a) (qty b)))) ∧ w = w' :=
  two_any (fun args w => by kernel_rfl) sub1_does a b w
theorem two_mul (a b : Int) (w : World) : Calls Try.prog 134 #[.int .i64 a, .int .i64 b, .func (.func 137) #[] #[]] w fun e w' => e = .returned (.int .i64 (qty (mulq (qty a) (qty b)))) ∧ w = w' :=
  two_any (fun args w => by kernel_rfl) mul1_does a b w
theorem two_ceil (a b : Int) (w : World) : Calls Try.prog 134 #[.int .i64 a, .int .i64 b, .func (.func 138) #[] #[]] w fun e w' => e = .returned (.int .i64 (qty (ceilq (qty a) (qty b)))) ∧ w = w' :=
  two_any (fun args w => by kernel_rfl) ceil1_does a b w

theorem sub_any (a b : Int) (w : World) : Calls Try.prog 33 #[.int .i64 a, .int .i64 b] w fun e w' => e = .returned (.int .i64 (qty (subq (qty a) (qty b)))) ∧ w = w' := by
  go_enter Try.func33, Try.ntmps33
  go_wp2_with fail
  refine (two_sub _ _ _).mono ?_
  rintro e w' ⟨rfl, rfl⟩
  go_wp2_with fail
  go_ret
  exact ⟨rfl, rfl⟩
theorem mul_any (a b : Int) (w : World) : Calls Try.prog 34 #[.int .i64 a, .int .i64 b] w fun e w' => e = .returned (.int .i64 (qty (mulq (qty a) (qty b)))) ∧ w = w' := by
  go_enter Try.func34, Try.ntmps34
  go_wp2_with fail
  refine (two_mul _ _ _).mono ?_
  rintro e w' ⟨rfl, rfl⟩
  go_wp2_with fail
  go_ret
  exact ⟨rfl, rfl⟩
theorem ceil_any (a b : Int) (w : World) : Calls Try.prog 35 #[.int .i64 a, .int .i64 b] w fun e w' => e = .returned (.int .i64 (qty (ceilq (qty a) (qty b)))) ∧ w = w' := by
  go_enter Try.func35, Try.ntmps35
  go_wp2_with fail
  refine (two_ceil _ _ _).mono ?_
  rintro e w' ⟨rfl, rfl⟩
  go_wp2_with fail
  go_ret
  exact ⟨rfl, rfl⟩
end Go.Proofs.Ytfnmpdohpbcegaa
