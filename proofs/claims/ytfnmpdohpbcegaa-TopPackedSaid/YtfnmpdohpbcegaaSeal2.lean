/- Contracts of package seal's functions: a register goes on. -/
import Derived.Test.YtfnmpdohpbcegaaSeal
namespace Go.Proofs.Ytfnmpdohpbcegaa
open Go.RowKit

theorem half_walk {r : Nat} (h : r < 18446744073709551616) : bits .xor .u64 ((bits4 (r % 16) : Nat) : Int) ((r : Int) / 16) = ((bits4 r : Nat) : Int) := by
  have h1 : bits4 (r % 16) < 18446744073709551616 := bitsN_lt (by omega) 4
  have := u64_xor_nat (bits4 (r % 16)) (r / 16) h1 (by omega)
  rw [half_step] at this
  rw [← this]
  rfl
def halfN : Nat → Nat → Nat
  | 0, r => r
  | n + 1, r => bits4 (halfN n r)
theorem halfN_lt {r : Nat} (h : r < 18446744073709551616) (n : Nat) : halfN n r < 18446744073709551616 := by
  induction n with
  | zero => exact h
  | succ n ih => exact bitsN_lt ih 4

theorem step_any (w : World) (gr gl r c : Nat) (hr : Blk w gr 30 #[.int .u64 (r : Int)]) (hl : Blk w gl 244 (tabA 16)) (hr1 : r < 18446744073709551616) (hc : c < 256) :
    Calls Try.prog 142 #[.int .u8 (c : Int), .pointer (some ⟨gr, 0, none⟩), .pointer (some ⟨gl, 0, none⟩)] w fun e w' =>
      e = .returned (.tuple #[]) ∧ Blk w' gr 30 #[.int .u64 ((byte1 r c : Nat) : Int)] ∧ w.grownBy w' (some gr) := by
  have hne := hl.ne_ hr (by decide)
  have h1 := hr.cell 0
  have h2 := hr.frozen 0
  have hx := u64_xor_nat r c hr1 (by omega)
  have HR := Lib.hid hr
  have HL := Lib.hid hl
  have HX := Lib.hid hx
  simp only [List.getElem?_toArray, List.getElem?_cons_zero] at h1
  clear hr hl hx
  go_enter Try.func142, Try.ntmps142
  go_wp2_with fail
  go_loopw [8] (fun i w' => ∃ n : Nat, n ≤ 2 ∧ i = .int .i64 n ∧ Blk w' gr 30 #[.int .u64 ((halfN n (r ^^^ c) : Nat) : Int)] ∧ w.grownBy w' (some gr)) (fun i _ => 2 - (intOf i).toNat)
  case atStart =>
    have hb := (HR.out.set_ 0 (.int .u64 (bits .xor .u64 r c)))
    rw [HX.out] at hb
    exact ⟨0, by omega, rfl, by rw [HX.out]; exact hb, gb_setCell (gb_refl _ _) (Or.inl rfl) _⟩
  case round =>
    obtain ⟨n, hn, rfl, hb, hg⟩ := hrel
    by_cases hlt : n < 2
    · have hx1 : halfN n (r ^^^ c) < 18446744073709551616 := halfN_lt (Nat.xor_lt_two_pow (n := 64) hr1 (by omega)) n
      obtain ⟨x, hx⟩ : ∃ x, halfN n (r ^^^ c) = x := ⟨_, rfl⟩
      rw [hx] at hb hx1
      have h1 := hb.cell 0
      have h2 := hb.frozen 0
      have h3 := (HL.out.other hg hne).cell (x % 16)
      rw [tabA_at _ _ (by omega), if_pos (by omega)] at h3
      have h4 := u64_and15 hx1
      simp only [List.getElem?_toArray, List.getElem?_cons_zero] at h1
      have HB := Lib.hid hb
      have HX2 := Lib.hid hx
      clear hb hx
      go_wp2_with fail
      go_region
      all_goals go_wp2_with fail
      have hb := (HB.out.set_ 0 (.int .u64 (bits .xor .u64 ((bits4 (x % 16) : Nat) : Int) ((x : Int) / 16)))).drew
      rw [half_walk hx1, ← HX2.out] at hb
      go_roundw
      case rel => exact ⟨n + 1, by omega, by go_num, by rw [half_walk hx1, ← HX2.out]; exact hb, gb_drew (gb_setCell hg (Or.inl rfl) _)⟩
      case measure => simp [intOf]; omega
    · obtain rfl : n = 2 := by omega
      have HB := Lib.hid hb
      clear hb
      go_wp2_with fail
      go_end0
      exact ⟨rfl, HB.out, hg⟩
end Go.Proofs.Ytfnmpdohpbcegaa
