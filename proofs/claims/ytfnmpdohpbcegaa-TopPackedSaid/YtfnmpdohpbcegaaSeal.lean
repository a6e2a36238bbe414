/- Contracts of package seal's functions. -/
import Derived.Test.YtfnmpdohpbcegaaMem
import Derived.Test.YtfnmpdohpbcegaaCrc
import Derived.Test.YtfnmpdohpbcegaaProg
import Derived.WalkKit
import Derived.WalkLawsBesides
import Derived.WalkSpells
import Derived.Deep.LoopGhost
import Derived.Lib.Hide
import Derived.Laws.BitsAllLaws
namespace Go.Proofs.Ytfnmpdohpbcegaa
open Go.RowKit

/-- The table, filled up to k. -/
def tabL (k : Nat) : List Value := (List.range 16).map fun j => Value.int .u64 (if j < k then ((bits4 j : Nat) : Int) else 0)
def tabA (k : Nat) : Array Value := (tabL k).toArray
theorem tabA_size (k : Nat) : (tabA k).size = 16 := by simp [tabA, tabL]
theorem tabA_at (k j : Nat) (h : j < 16) : (tabA k)[j]? = some (Value.int .u64 (if j < k then ((bits4 j : Nat) : Int) else 0)) := by
  simp [tabA, tabL, h]
theorem tabA_set (k : Nat) (h : k < 16) : (tabA k).setIfInBounds k (.int .u64 ((bits4 k : Nat) : Int)) = tabA (k + 1) := by
  apply Array.ext_getElem?
  intro j
  rw [Array.getElem?_setIfInBounds]
  by_cases hj : j < 16
  · rw [tabA_at _ _ hj, tabA_at _ _ hj, tabA_size]
    by_cases e : k = j
    · subst e; simp [h]
    · simp [e, show (j < k + 1) = (j < k) by simp; omega]
  · simp [show ¬ k = j by omega, tabA, tabL, hj]

theorem u64_and1 {r : Nat} (h : r < 18446744073709551616) : bits .and .u64 (r : Int) 1 = ((r % 2 : Nat) : Int) := by
  have := u64_and_nat r 1 h (by omega)
  rw [Nat.and_one_is_mod] at this
  exact this
theorem u64_and15 {r : Nat} (h : r < 18446744073709551616) : bits .and .u64 (r : Int) 15 = ((r % 16 : Nat) : Int) := by
  have := u64_and_nat r 15 h (by omega)
  rw [nat_mask4] at this
  exact this
theorem bit1_odd {r : Nat} (h : r < 18446744073709551616) (h1 : (bits .and .u64 (r : Int) 1 == 1) = true) : bits .xor .u64 ((r : Int) / 2) 14514072000185962306 = ((bit1 r : Nat) : Int) := by
  rw [u64_and1 h, beq_iff_eq] at h1
  have h2 := u64_xor_nat (r / 2) polyN (by omega) polyN_lt
  unfold bit1
  rw [show r % 2 = 1 by omega, Nat.one_mul, ← h2]
  rfl
theorem bit1_evn {r : Nat} (h : r < 18446744073709551616) (h1 : (bits .and .u64 (r : Int) 1 == 1) = false) : ((r : Int) / 2) = ((bit1 r : Nat) : Int) := by
  rw [u64_and1 h, beq_eq_false_iff_ne] at h1
  unfold bit1
  rw [show r % 2 = 0 by omega, Nat.zero_mul, Nat.xor_zero]
  omega
theorem tabA_16 : tabA 16 = #[.int .u64 ((bits4 0 : Nat) : Int), .int .u64 ((bits4 1 : Nat) : Int), .int .u64 ((bits4 2 : Nat) : Int), .int .u64 ((bits4 3 : Nat) : Int), .int .u64 ((bits4 4 : Nat) : Int), .int .u64 ((bits4 5 : Nat) : Int), .int .u64 ((bits4 6 : Nat) : Int), .int .u64 ((bits4 7 : Nat) : Int), .int .u64 ((bits4 8 : Nat) : Int), .int .u64 ((bits4 9 : Nat) : Int), .int .u64 ((bits4 10 : Nat) : Int), .int .u64 ((bits4 11 : Nat) : Int), .int .u64 ((bits4 12 : Nat) : Int), .int .u64 ((bits4 13 : Nat) : Int), .int .u64 ((bits4 14 : Nat) : Int), .int .u64 ((bits4 15 : Nat) : Int)] := by simp [tabA, tabL, List.range, List.range.loop]
theorem val_u64 {a b : Int} (h : a = b) : Value.int .u64 a = .int .u64 b := by rw [h]

set_option maxRecDepth 100000 in
theorem halves_any (w : World) : Calls Try.prog 141 #[] w fun e w' => e = .returned (.agg (tabA 16)) ∧ Below w.heap.size w w' := by
  go_enter Try.func141, Try.ntmps141
  go_wp2_with fail
  go_loopw [4] (fun i w' => ∃ k : Nat, k ≤ 16 ∧ i = .int .i64 k ∧ w' = w.alloc (.cells (tabA k) 244)) (fun i _ => 16 - (intOf i).toNat)
  case atStart => exact ⟨0, Nat.zero_le _, rfl, rfl⟩
  case round =>
    obtain ⟨k, hk, rfl, rfl⟩ := hrel
    by_cases hlt : k < 16
    · have h1 := tabA_at k k hlt
      rw [if_neg (by omega)] at h1
      have h2 := tabA_set k hlt
      have H2 := Lib.hid h2
      clear h2
      go_wp2_with fail
      go_loop [2, 9] (fun r i => ∃ n : Nat, n ≤ 4 ∧ i = .int .i64 n ∧ r = .int .u64 ((bitsN n k : Nat) : Int)) (fun _ i => 4 - (intOf i).toNat)
      case atStart => exact ⟨0, Nat.zero_le _, rfl, by simp [bitsN]⟩
      case round =>
        obtain ⟨n, hn, rfl, rfl⟩ := hrel
        have hr := bitsN_lt (r := k) (by omega) n
        have HR := Lib.hid hr
        clear hr
        by_cases hlt : n < 4
        · go_wp2_with fail
          · go_round
            case rel => exact ⟨n + 1, by omega, by go_num, val_u64 (bit1_odd HR.out (by assumption))⟩
            case measure => simp [intOf]; omega
          · go_round
            case rel => exact ⟨n + 1, by omega, by go_num, val_u64 (bit1_evn HR.out (by assumption))⟩
            case measure => simp [intOf]; omega
        · obtain rfl : n = 4 := by omega
          clear HR
          go_wp2_with fail
          go_roundw
          case rel => exact ⟨k + 1, by omega, by go_num, by rw [← H2.out]; rfl⟩
          case measure => simp [intOf]; omega
    · obtain rfl : k = 16 := by omega
      have hg : (w.alloc (.cells (tabA 16) 244)).heap[w.heap.size]? = some (.cells (tabA 16) 244 (0, 0)) := heap_alloc_new w _
      have hone : ∀ v ∈ (tabA 16).toList, v.oneCell' = true := by
        intro v hv
        simp only [tabA, tabL, List.mem_map] at hv
        obtain ⟨j, _, rfl⟩ := hv
        rfl
      have Hg := Lib.hid hg
      have Ho := Lib.hid hone
      clear hg hone
      go_wp2_with (first | (refine wpList_load_row rfl 244 _ rfl w.heap.size rfl 244 (tabA 16) _ _ Hg.out Try.underlying244 rfl (by rw [tabA_size]; kernel_rfl) ?_) | (refine wpList_store_row rfl 244 _ _ rfl w.heap.size (tabA 16) rfl rfl 244 _ Hg.out rfl (by rw [tabA_size]; kernel_rfl) Ho.out ?_; rw [setRow_alloc]))
      exact bodyPost_ret (results_cell_row rfl _ _ w.heap.size 244 (tabA 16) _ _ rfl Hg.out Try.underlying244 rfl (by rw [tabA_size]; kernel_rfl)) rfl ⟨rfl, (Below.refl _ _).alloc (Nat.le_refl _) _⟩
end Go.Proofs.Ytfnmpdohpbcegaa
