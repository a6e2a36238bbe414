/- The statement's own function counts33 answers true. -/
import Derived.Test.YtfnmpdohpbcegaaCountsPure
namespace Go.Proofs.Ytfnmpdohpbcegaa
open Go.RowKit

theorem add1_min (s a : Int) (h0 : 0 ≤ s) (h1 : s ≤ 1099511627776) : (if 1099511627776 < s + qty a then 1099511627776 else s + qty a) = add1 s a := (add1_eq s a h0 h1).symm

theorem sub_law (a b : Int) : qty (subq (qty a) (qty b)) = if qty a - qty b < 0 then 0 else qty a - qty b := by
  have := qty_le a
  have := qty_le b
  unfold subq
  split
  · exact qty_neg (by omega)
  · exact qty_of (by omega) (by omega)

theorem grain_pos (a g : Int) (w : World) (h : 0 < qty g) :
    Calls Try.prog 37 #[.int .i64 a, .int .i64 g] w fun e w' => e = .returned (.int .i64 (qty (mulq (qty (qty (ceilq (qty a) (qty g)))) (qty g)))) ∧ w = w' := by
  have h1 := grain_any a g w
  rw [if_neg (by omega)] at h1
  exact h1
theorem grain_zero (a g : Int) (w : World) (h : qty g ≤ 0) :
    Calls Try.prog 37 #[.int .i64 a, .int .i64 g] w fun e w' => e = .returned (.int .i64 (qty a)) ∧ w = w' := by
  have h0 := (qty_le g).1
  have h1 := grain_any a g w
  rw [if_pos (by omega)] at h1
  exact h1

set_option maxRecDepth 100000 in
set_option maxHeartbeats 1000000 in
theorem counts_s {B : Nat} (a b n : Int) (A : Option Addr) (c : Nat) (l : List Int) (w : World) (hn0 : -9223372036854775808 ≤ n) (hn1 : n ≤ 9223372036854775807) (hl : l.length ≤ 140737488351232) (hr : Reads w B 1 A l.length (ints l)) (hB : B ≤ w.heap.size)
    (hx0 : qty a ≠ 0) (hy0 : 0 < qty b) (hxy : qty b ≤ 1099511627776 / qty a) :
    Calls Try.prog 12 #[.int .i64 a, .int .i64 b, .slice A l.length c, .int .i64 n] w fun e w' => e = .returned (.bool true) ∧ Below w.heap.size w w' := by
  have ha := (qty_le a).1
  have ha1 := (qty_le a).2
  have hb := (qty_le b).1
  have hb1 := (qty_le b).2
  have HX : (qty a == 0) = false := by simpa using hx0
  have hq0 : 0 ≤ 1099511627776 / qty a := Int.ediv_nonneg (by omega) ha
  have hq1 : 1099511627776 / qty a ≤ 1099511627776 := Int.ediv_le_self _ (by omega)
  have hm0 := (mul_small ha hb (Or.inr hxy)).1
  have hm1 := (mul_small ha hb (Or.inr hxy)).2
  have hc0 := (ceil_mul ha hy0).1
  have hc1 := (ceil_mul ha hy0).2.1
  have hc2 := (ceil_mul ha hy0).2.2.1
  have hc3 := (ceil_mul ha hy0).2.2.2
  obtain ⟨g, hg⟩ : ∃ g, (if 1099511627776 < (qty a + qty b - 1) / qty b * qty b then 1099511627776 else (qty a + qty b - 1) / qty b * qty b) = g := ⟨_, rfl⟩
  obtain ⟨d, hd⟩ : ∃ d, (if qty a - qty b < 0 then 0 else qty a - qty b) = d := ⟨_, rfl⟩
  have hS := Lib.hid ((sub_law a b).trans hd)
  have hM := Lib.hid ((mul_law ha hb).trans (if_pos (Or.inr hxy)))
  have hC := Lib.hid ((ceil_law ha ha1 hb).trans (if_pos hy0))
  have hG := Lib.hid ((grain_law ha ha1 hy0).trans hg)
  have hT := Lib.hid (twice_law (a := a) n)
  go_enter Try.func12, Try.ntmps12
  go_wp2_with (go_at_call 38; refine (of33_any _ _).mono ?_; rintro e w' ⟨rfl, rfl⟩)
  go_loop [11, 25] (fun s i => ∃ k : Nat, k ≤ l.length ∧ i = .int .i64 k ∧ s = .int .i64 (addl (l.take k))) (fun _ i => l.length - (intOf i).toNat)
  case atStart => exact ⟨0, Nat.zero_le _, rfl, rfl⟩
  case round =>
    obtain ⟨k, hk, rfl, rfl⟩ := hrel
    by_cases hlt : k < l.length
    · obtain ⟨ad, u, rfl, _, hx, hc⟩ := hr.at_ hlt
      obtain ⟨_, rfl⟩ := ints_at hx
      have hs := addl_step l k hlt
      have hv := addl_le (l.take k)
      rw [← add1_min _ _ hv.1 hv.2] at hs
      have hv0 := hv.1
      have hv1 := hv.2
      have ht0 := (qty_le l[k]).1
      have ht1 := (qty_le l[k]).2
      have H := Lib.hid hs
      clear hs hx hv
      go_wp2_with (go_at_call 38; refine (of33_any _ _).mono ?_; rintro e w' ⟨rfl, rfl⟩)
      all_goals go_round
      case rel => exact ⟨k + 1, by omega, by go_num, by rw [H.out]⟩
      case measure => simp [intOf]; omega
    · obtain rfl : k = l.length := by omega
      go_wp2_with fail
      go_region
      go_wp2_with fail
      go_loopw [16, 18] (fun s i w' => Below w.heap.size w w' ∧ ∃ k : Nat, k ≤ min 50 n.toNat ∧ i = .int .i64 k ∧ s = .int .i64 (dblN k (qty a))) (fun _ i _ => 50 - (intOf i).toNat)
      case atStart => exact ⟨(Below.refl _ _).drew, 0, Nat.zero_le _, rfl, rfl⟩
      case round =>
        obtain ⟨hbe, k, hk, rfl, rfl⟩ := hrel
        have hk1 : (k : Int) ≤ 50 := by omega
        have hdk := dblN_le ha ha1 k
        have hdk0 := hdk.1
        have hdk1 := hdk.2
        clear hdk
        by_cases hlt : (k : Int) < n
        · by_cases hlt2 : (k : Int) < 50
          · obtain ⟨z, hz⟩ : ∃ z, (if 1099511627776 < 2 * dblN k (qty a) then 1099511627776 else 2 * dblN k (qty a)) = z := ⟨_, rfl⟩
            have HZ : Hid (z = dblN (k + 1) (qty a)) := hz.symm
            go_wp2_with fail
            go_roundw
            case rel => exact ⟨hbe, k + 1, by omega, by go_num, by rw [HZ.out]⟩
            case measure => simp [intOf]; omega
          · have hke : min 50 n.toNat = k := by omega
            have hS := hS.out
            have hM := hM.out
            have hC := hC.out
            have hG := hG.out
            rw [hC] at hG
            have hT := hT.out
            rw [hke] at hT
            have hrw := hr.below (hbe.mono hB)
            clear hr hke hg
            go_wp2_with (first | (go_at_call 39; refine (of_any _ _).mono ?_; rintro e w' ⟨rfl, rfl⟩) | (go_at_call 32; refine (add_any _ _ _ _ hl hrw).mono ?_; rintro e w' ⟨rfl, rfl⟩) | (go_at_call 33; refine (sub_any _ _ _).mono ?_; rintro e w' ⟨rfl, rfl⟩) | (go_at_call 34; refine (mul_any _ _ _).mono ?_; rintro e w' ⟨rfl, rfl⟩) | (go_at_call 35; refine (ceil_any _ _ _).mono ?_; rintro e w' ⟨rfl, rfl⟩) | (go_at_call 36; refine (twice_any _ _ _ hn0 hn1).mono ?_; rintro e w' ⟨rfl, hb2⟩) | (go_at_call 37; refine (grain_pos _ _ _ hy0).mono ?_; rintro e w' ⟨rfl, rfl⟩))
            go_ret
            exact ⟨rfl, hbe.trans (hb2.mono hbe.size)⟩
        · have hke : min 50 n.toNat = k := by omega
          have hS := hS.out
          have hM := hM.out
          have hC := hC.out
          have hG := hG.out
          rw [hC] at hG
          have hT := hT.out
          rw [hke] at hT
          have hrw := hr.below (hbe.mono hB)
          clear hr hke hg
          go_wp2_with (first | (go_at_call 39; refine (of_any _ _).mono ?_; rintro e w' ⟨rfl, rfl⟩) | (go_at_call 32; refine (add_any _ _ _ _ hl hrw).mono ?_; rintro e w' ⟨rfl, rfl⟩) | (go_at_call 33; refine (sub_any _ _ _).mono ?_; rintro e w' ⟨rfl, rfl⟩) | (go_at_call 34; refine (mul_any _ _ _).mono ?_; rintro e w' ⟨rfl, rfl⟩) | (go_at_call 35; refine (ceil_any _ _ _).mono ?_; rintro e w' ⟨rfl, rfl⟩) | (go_at_call 36; refine (twice_any _ _ _ hn0 hn1).mono ?_; rintro e w' ⟨rfl, hb2⟩) | (go_at_call 37; refine (grain_pos _ _ _ hy0).mono ?_; rintro e w' ⟨rfl, rfl⟩))
          go_ret
          exact ⟨rfl, hbe.trans (hb2.mono hbe.size)⟩

set_option maxRecDepth 100000 in
set_option maxHeartbeats 1000000 in
theorem counts_b {B : Nat} (a b n : Int) (A : Option Addr) (c : Nat) (l : List Int) (w : World) (hn0 : -9223372036854775808 ≤ n) (hn1 : n ≤ 9223372036854775807) (hl : l.length ≤ 140737488351232) (hr : Reads w B 1 A l.length (ints l)) (hB : B ≤ w.heap.size)
    (hx0 : qty a ≠ 0) (hy0 : 0 < qty b) (hxy : 1099511627776 / qty a < qty b) :
    Calls Try.prog 12 #[.int .i64 a, .int .i64 b, .slice A l.length c, .int .i64 n] w fun e w' => e = .returned (.bool true) ∧ Below w.heap.size w w' := by
  have ha := (qty_le a).1
  have ha1 := (qty_le a).2
  have hb := (qty_le b).1
  have hb1 := (qty_le b).2
  have HX : (qty a == 0) = false := by simpa using hx0
  have hq0 : 0 ≤ 1099511627776 / qty a := Int.ediv_nonneg (by omega) ha
  have hq1 : 1099511627776 / qty a ≤ 1099511627776 := Int.ediv_le_self _ (by omega)
  have hc0 := (ceil_mul ha hy0).1
  have hc1 := (ceil_mul ha hy0).2.1
  have hc2 := (ceil_mul ha hy0).2.2.1
  have hc3 := (ceil_mul ha hy0).2.2.2
  obtain ⟨g, hg⟩ : ∃ g, (if 1099511627776 < (qty a + qty b - 1) / qty b * qty b then 1099511627776 else (qty a + qty b - 1) / qty b * qty b) = g := ⟨_, rfl⟩
  obtain ⟨d, hd⟩ : ∃ d, (if qty a - qty b < 0 then 0 else qty a - qty b) = d := ⟨_, rfl⟩
  have hS := Lib.hid ((sub_law a b).trans hd)
  have hM := Lib.hid ((mul_law ha hb).trans (if_neg (by omega)))
  have hC := Lib.hid ((ceil_law ha ha1 hb).trans (if_pos hy0))
  have hG := Lib.hid ((grain_law ha ha1 hy0).trans hg)
  have hT := Lib.hid (twice_law (a := a) n)
  go_enter Try.func12, Try.ntmps12
  go_wp2_with (go_at_call 38; refine (of33_any _ _).mono ?_; rintro e w' ⟨rfl, rfl⟩)
  go_loop [11, 25] (fun s i => ∃ k : Nat, k ≤ l.length ∧ i = .int .i64 k ∧ s = .int .i64 (addl (l.take k))) (fun _ i => l.length - (intOf i).toNat)
  case atStart => exact ⟨0, Nat.zero_le _, rfl, rfl⟩
  case round =>
    obtain ⟨k, hk, rfl, rfl⟩ := hrel
    by_cases hlt : k < l.length
    · obtain ⟨ad, u, rfl, _, hx, hc⟩ := hr.at_ hlt
      obtain ⟨_, rfl⟩ := ints_at hx
      have hs := addl_step l k hlt
      have hv := addl_le (l.take k)
      rw [← add1_min _ _ hv.1 hv.2] at hs
      have hv0 := hv.1
      have hv1 := hv.2
      have ht0 := (qty_le l[k]).1
      have ht1 := (qty_le l[k]).2
      have H := Lib.hid hs
      clear hs hx hv
      go_wp2_with (go_at_call 38; refine (of33_any _ _).mono ?_; rintro e w' ⟨rfl, rfl⟩)
      all_goals go_round
      case rel => exact ⟨k + 1, by omega, by go_num, by rw [H.out]⟩
      case measure => simp [intOf]; omega
    · obtain rfl : k = l.length := by omega
      go_wp2_with fail
      go_region
      go_wp2_with fail
      go_loopw [16, 18] (fun s i w' => Below w.heap.size w w' ∧ ∃ k : Nat, k ≤ min 50 n.toNat ∧ i = .int .i64 k ∧ s = .int .i64 (dblN k (qty a))) (fun _ i _ => 50 - (intOf i).toNat)
      case atStart => exact ⟨(Below.refl _ _).drew, 0, Nat.zero_le _, rfl, rfl⟩
      case round =>
        obtain ⟨hbe, k, hk, rfl, rfl⟩ := hrel
        have hk1 : (k : Int) ≤ 50 := by omega
        have hdk := dblN_le ha ha1 k
        have hdk0 := hdk.1
        have hdk1 := hdk.2
        clear hdk
        by_cases hlt : (k : Int) < n
        · by_cases hlt2 : (k : Int) < 50
          · obtain ⟨z, hz⟩ : ∃ z, (if 1099511627776 < 2 * dblN k (qty a) then 1099511627776 else 2 * dblN k (qty a)) = z := ⟨_, rfl⟩
            have HZ : Hid (z = dblN (k + 1) (qty a)) := hz.symm
            go_wp2_with fail
            go_roundw
            case rel => exact ⟨hbe, k + 1, by omega, by go_num, by rw [HZ.out]⟩
            case measure => simp [intOf]; omega
          · have hke : min 50 n.toNat = k := by omega
            have hS := hS.out
            have hM := hM.out
            have hC := hC.out
            have hG := hG.out
            rw [hC] at hG
            have hT := hT.out
            rw [hke] at hT
            have hrw := hr.below (hbe.mono hB)
            clear hr hke hg
            go_wp2_with (first | (go_at_call 39; refine (of_any _ _).mono ?_; rintro e w' ⟨rfl, rfl⟩) | (go_at_call 32; refine (add_any _ _ _ _ hl hrw).mono ?_; rintro e w' ⟨rfl, rfl⟩) | (go_at_call 33; refine (sub_any _ _ _).mono ?_; rintro e w' ⟨rfl, rfl⟩) | (go_at_call 34; refine (mul_any _ _ _).mono ?_; rintro e w' ⟨rfl, rfl⟩) | (go_at_call 35; refine (ceil_any _ _ _).mono ?_; rintro e w' ⟨rfl, rfl⟩) | (go_at_call 36; refine (twice_any _ _ _ hn0 hn1).mono ?_; rintro e w' ⟨rfl, hb2⟩) | (go_at_call 37; refine (grain_pos _ _ _ hy0).mono ?_; rintro e w' ⟨rfl, rfl⟩))
            go_ret
            exact ⟨rfl, hbe.trans (hb2.mono hbe.size)⟩
        · have hke : min 50 n.toNat = k := by omega
          have hS := hS.out
          have hM := hM.out
          have hC := hC.out
          have hG := hG.out
          rw [hC] at hG
          have hT := hT.out
          rw [hke] at hT
          have hrw := hr.below (hbe.mono hB)
          clear hr hke hg
          go_wp2_with (first | (go_at_call 39; refine (of_any _ _).mono ?_; rintro e w' ⟨rfl, rfl⟩) | (go_at_call 32; refine (add_any _ _ _ _ hl hrw).mono ?_; rintro e w' ⟨rfl, rfl⟩) | (go_at_call 33; refine (sub_any _ _ _).mono ?_; rintro e w' ⟨rfl, rfl⟩) | (go_at_call 34; refine (mul_any _ _ _).mono ?_; rintro e w' ⟨rfl, rfl⟩) | (go_at_call 35; refine (ceil_any _ _ _).mono ?_; rintro e w' ⟨rfl, rfl⟩) | (go_at_call 36; refine (twice_any _ _ _ hn0 hn1).mono ?_; rintro e w' ⟨rfl, hb2⟩) | (go_at_call 37; refine (grain_pos _ _ _ hy0).mono ?_; rintro e w' ⟨rfl, rfl⟩))
          go_ret
          exact ⟨rfl, hbe.trans (hb2.mono hbe.size)⟩

set_option maxRecDepth 100000 in
set_option maxHeartbeats 1000000 in
theorem counts_y {B : Nat} (a b n : Int) (A : Option Addr) (c : Nat) (l : List Int) (w : World) (hn0 : -9223372036854775808 ≤ n) (hn1 : n ≤ 9223372036854775807) (hl : l.length ≤ 140737488351232) (hr : Reads w B 1 A l.length (ints l)) (hB : B ≤ w.heap.size)
    (hx0 : qty a ≠ 0) (hy0 : qty b ≤ 0) :
    Calls Try.prog 12 #[.int .i64 a, .int .i64 b, .slice A l.length c, .int .i64 n] w fun e w' => e = .returned (.bool true) ∧ Below w.heap.size w w' := by
  have ha := (qty_le a).1
  have ha1 := (qty_le a).2
  have hb := (qty_le b).1
  have hb1 := (qty_le b).2
  have HX : (qty a == 0) = false := by simpa using hx0
  have hq0 : 0 ≤ 1099511627776 / qty a := Int.ediv_nonneg (by omega) ha
  have hq1 : 1099511627776 / qty a ≤ 1099511627776 := Int.ediv_le_self _ (by omega)
  have hxy : qty b ≤ 1099511627776 / qty a := by omega
  have hm0 := (mul_small ha hb (Or.inr hxy)).1
  have hm1 := (mul_small ha hb (Or.inr hxy)).2
  obtain ⟨d, hd⟩ : ∃ d, (if qty a - qty b < 0 then 0 else qty a - qty b) = d := ⟨_, rfl⟩
  have hS := Lib.hid ((sub_law a b).trans hd)
  have hM := Lib.hid ((mul_law ha hb).trans (if_pos (Or.inr hxy)))
  have hC := Lib.hid (((ceil_law ha ha1 hb).trans (if_neg (by omega))).trans (if_neg hx0))
  have hT := Lib.hid (twice_law (a := a) n)
  go_enter Try.func12, Try.ntmps12
  go_wp2_with (go_at_call 38; refine (of33_any _ _).mono ?_; rintro e w' ⟨rfl, rfl⟩)
  go_loop [11, 25] (fun s i => ∃ k : Nat, k ≤ l.length ∧ i = .int .i64 k ∧ s = .int .i64 (addl (l.take k))) (fun _ i => l.length - (intOf i).toNat)
  case atStart => exact ⟨0, Nat.zero_le _, rfl, rfl⟩
  case round =>
    obtain ⟨k, hk, rfl, rfl⟩ := hrel
    by_cases hlt : k < l.length
    · obtain ⟨ad, u, rfl, _, hx, hc⟩ := hr.at_ hlt
      obtain ⟨_, rfl⟩ := ints_at hx
      have hs := addl_step l k hlt
      have hv := addl_le (l.take k)
      rw [← add1_min _ _ hv.1 hv.2] at hs
      have hv0 := hv.1
      have hv1 := hv.2
      have ht0 := (qty_le l[k]).1
      have ht1 := (qty_le l[k]).2
      have H := Lib.hid hs
      clear hs hx hv
      go_wp2_with (go_at_call 38; refine (of33_any _ _).mono ?_; rintro e w' ⟨rfl, rfl⟩)
      all_goals go_round
      case rel => exact ⟨k + 1, by omega, by go_num, by rw [H.out]⟩
      case measure => simp [intOf]; omega
    · obtain rfl : k = l.length := by omega
      go_wp2_with fail
      go_loopw [16, 18] (fun s i w' => Below w.heap.size w w' ∧ ∃ k : Nat, k ≤ min 50 n.toNat ∧ i = .int .i64 k ∧ s = .int .i64 (dblN k (qty a))) (fun _ i _ => 50 - (intOf i).toNat)
      case atStart => exact ⟨Below.refl _ _, 0, Nat.zero_le _, rfl, rfl⟩
      case round =>
        obtain ⟨hbe, k, hk, rfl, rfl⟩ := hrel
        have hk1 : (k : Int) ≤ 50 := by omega
        have hdk := dblN_le ha ha1 k
        have hdk0 := hdk.1
        have hdk1 := hdk.2
        clear hdk
        by_cases hlt : (k : Int) < n
        · by_cases hlt2 : (k : Int) < 50
          · obtain ⟨z, hz⟩ : ∃ z, (if 1099511627776 < 2 * dblN k (qty a) then 1099511627776 else 2 * dblN k (qty a)) = z := ⟨_, rfl⟩
            have HZ : Hid (z = dblN (k + 1) (qty a)) := hz.symm
            go_wp2_with fail
            go_roundw
            case rel => exact ⟨hbe, k + 1, by omega, by go_num, by rw [HZ.out]⟩
            case measure => simp [intOf]; omega
          · have hke : min 50 n.toNat = k := by omega
            have hS := hS.out
            have hM := hM.out
            have hC := hC.out
            have hT := hT.out
            rw [hke] at hT
            have hrw := hr.below (hbe.mono hB)
            clear hr hke 
            go_wp2_with (first | (go_at_call 39; refine (of_any _ _).mono ?_; rintro e w' ⟨rfl, rfl⟩) | (go_at_call 32; refine (add_any _ _ _ _ hl hrw).mono ?_; rintro e w' ⟨rfl, rfl⟩) | (go_at_call 33; refine (sub_any _ _ _).mono ?_; rintro e w' ⟨rfl, rfl⟩) | (go_at_call 34; refine (mul_any _ _ _).mono ?_; rintro e w' ⟨rfl, rfl⟩) | (go_at_call 35; refine (ceil_any _ _ _).mono ?_; rintro e w' ⟨rfl, rfl⟩) | (go_at_call 36; refine (twice_any _ _ _ hn0 hn1).mono ?_; rintro e w' ⟨rfl, hb2⟩) | (go_at_call 37; refine (grain_zero _ _ _ hy0).mono ?_; rintro e w' ⟨rfl, rfl⟩))
            go_ret
            exact ⟨rfl, hbe.trans (hb2.mono hbe.size)⟩
        · have hke : min 50 n.toNat = k := by omega
          have hS := hS.out
          have hM := hM.out
          have hC := hC.out
          have hT := hT.out
          rw [hke] at hT
          have hrw := hr.below (hbe.mono hB)
          clear hr hke 
          go_wp2_with (first | (go_at_call 39; refine (of_any _ _).mono ?_; rintro e w' ⟨rfl, rfl⟩) | (go_at_call 32; refine (add_any _ _ _ _ hl hrw).mono ?_; rintro e w' ⟨rfl, rfl⟩) | (go_at_call 33; refine (sub_any _ _ _).mono ?_; rintro e w' ⟨rfl, rfl⟩) | (go_at_call 34; refine (mul_any _ _ _).mono ?_; rintro e w' ⟨rfl, rfl⟩) | (go_at_call 35; refine (ceil_any _ _ _).mono ?_; rintro e w' ⟨rfl, rfl⟩) | (go_at_call 36; refine (twice_any _ _ _ hn0 hn1).mono ?_; rintro e w' ⟨rfl, hb2⟩) | (go_at_call 37; refine (grain_zero _ _ _ hy0).mono ?_; rintro e w' ⟨rfl, rfl⟩))
          go_ret
          exact ⟨rfl, hbe.trans (hb2.mono hbe.size)⟩

set_option maxRecDepth 100000 in
set_option maxHeartbeats 1000000 in
theorem counts_x {B : Nat} (a b n : Int) (A : Option Addr) (c : Nat) (l : List Int) (w : World) (hn0 : -9223372036854775808 ≤ n) (hn1 : n ≤ 9223372036854775807) (hl : l.length ≤ 140737488351232) (hr : Reads w B 1 A l.length (ints l)) (hB : B ≤ w.heap.size)
    (hx0 : qty a = 0) (hy0 : 0 < qty b) :
    Calls Try.prog 12 #[.int .i64 a, .int .i64 b, .slice A l.length c, .int .i64 n] w fun e w' => e = .returned (.bool true) ∧ Below w.heap.size w w' := by
  have ha := (qty_le a).1
  have ha1 := (qty_le a).2
  have hb := (qty_le b).1
  have hb1 := (qty_le b).2
  have HX : (qty a == 0) = true := by simpa using hx0
  have hm0 := (mul_small ha hb (Or.inl hx0)).1
  have hm1 := (mul_small ha hb (Or.inl hx0)).2
  have hc0 := (ceil_mul ha hy0).1
  have hc1 := (ceil_mul ha hy0).2.1
  have hc2 := (ceil_mul ha hy0).2.2.1
  have hc3 := (ceil_mul ha hy0).2.2.2
  obtain ⟨g, hg⟩ : ∃ g, (if 1099511627776 < (qty a + qty b - 1) / qty b * qty b then 1099511627776 else (qty a + qty b - 1) / qty b * qty b) = g := ⟨_, rfl⟩
  obtain ⟨d, hd⟩ : ∃ d, (if qty a - qty b < 0 then 0 else qty a - qty b) = d := ⟨_, rfl⟩
  have hS := Lib.hid ((sub_law a b).trans hd)
  have hM := Lib.hid ((mul_law ha hb).trans (if_pos (Or.inl hx0)))
  have hC := Lib.hid ((ceil_law ha ha1 hb).trans (if_pos hy0))
  have hG := Lib.hid ((grain_law ha ha1 hy0).trans hg)
  have hT := Lib.hid (twice_law (a := a) n)
  clear hx0
  go_enter Try.func12, Try.ntmps12
  go_wp2_with (go_at_call 38; refine (of33_any _ _).mono ?_; rintro e w' ⟨rfl, rfl⟩)
  go_loop [11, 25] (fun s i => ∃ k : Nat, k ≤ l.length ∧ i = .int .i64 k ∧ s = .int .i64 (addl (l.take k))) (fun _ i => l.length - (intOf i).toNat)
  case atStart => exact ⟨0, Nat.zero_le _, rfl, rfl⟩
  case round =>
    obtain ⟨k, hk, rfl, rfl⟩ := hrel
    by_cases hlt : k < l.length
    · obtain ⟨ad, u, rfl, _, hx, hc⟩ := hr.at_ hlt
      obtain ⟨_, rfl⟩ := ints_at hx
      have hs := addl_step l k hlt
      have hv := addl_le (l.take k)
      rw [← add1_min _ _ hv.1 hv.2] at hs
      have hv0 := hv.1
      have hv1 := hv.2
      have ht0 := (qty_le l[k]).1
      have ht1 := (qty_le l[k]).2
      have H := Lib.hid hs
      clear hs hx hv
      go_wp2_with (go_at_call 38; refine (of33_any _ _).mono ?_; rintro e w' ⟨rfl, rfl⟩)
      all_goals go_round
      case rel => exact ⟨k + 1, by omega, by go_num, by rw [H.out]⟩
      case measure => simp [intOf]; omega
    · obtain rfl : k = l.length := by omega
      go_wp2_with fail
      go_region
      go_wp2_with fail
      go_loopw [16, 18] (fun s i w' => Below w.heap.size w w' ∧ ∃ k : Nat, k ≤ min 50 n.toNat ∧ i = .int .i64 k ∧ s = .int .i64 (dblN k (qty a))) (fun _ i _ => 50 - (intOf i).toNat)
      case atStart => exact ⟨(Below.refl _ _).drew, 0, Nat.zero_le _, rfl, rfl⟩
      case round =>
        obtain ⟨hbe, k, hk, rfl, rfl⟩ := hrel
        have hk1 : (k : Int) ≤ 50 := by omega
        have hdk := dblN_le ha ha1 k
        have hdk0 := hdk.1
        have hdk1 := hdk.2
        clear hdk
        by_cases hlt : (k : Int) < n
        · by_cases hlt2 : (k : Int) < 50
          · obtain ⟨z, hz⟩ : ∃ z, (if 1099511627776 < 2 * dblN k (qty a) then 1099511627776 else 2 * dblN k (qty a)) = z := ⟨_, rfl⟩
            have HZ : Hid (z = dblN (k + 1) (qty a)) := hz.symm
            go_wp2_with fail
            go_roundw
            case rel => exact ⟨hbe, k + 1, by omega, by go_num, by rw [HZ.out]⟩
            case measure => simp [intOf]; omega
          · have hke : min 50 n.toNat = k := by omega
            have hS := hS.out
            have hM := hM.out
            have hC := hC.out
            have hG := hG.out
            rw [hC] at hG
            have hT := hT.out
            rw [hke] at hT
            have hrw := hr.below (hbe.mono hB)
            clear hr hke hg
            go_wp2_with (first | (go_at_call 39; refine (of_any _ _).mono ?_; rintro e w' ⟨rfl, rfl⟩) | (go_at_call 32; refine (add_any _ _ _ _ hl hrw).mono ?_; rintro e w' ⟨rfl, rfl⟩) | (go_at_call 33; refine (sub_any _ _ _).mono ?_; rintro e w' ⟨rfl, rfl⟩) | (go_at_call 34; refine (mul_any _ _ _).mono ?_; rintro e w' ⟨rfl, rfl⟩) | (go_at_call 35; refine (ceil_any _ _ _).mono ?_; rintro e w' ⟨rfl, rfl⟩) | (go_at_call 36; refine (twice_any _ _ _ hn0 hn1).mono ?_; rintro e w' ⟨rfl, hb2⟩) | (go_at_call 37; refine (grain_pos _ _ _ hy0).mono ?_; rintro e w' ⟨rfl, rfl⟩))
            go_ret
            exact ⟨rfl, hbe.trans (hb2.mono hbe.size)⟩
        · have hke : min 50 n.toNat = k := by omega
          have hS := hS.out
          have hM := hM.out
          have hC := hC.out
          have hG := hG.out
          rw [hC] at hG
          have hT := hT.out
          rw [hke] at hT
          have hrw := hr.below (hbe.mono hB)
          clear hr hke hg
          go_wp2_with (first | (go_at_call 39; refine (of_any _ _).mono ?_; rintro e w' ⟨rfl, rfl⟩) | (go_at_call 32; refine (add_any _ _ _ _ hl hrw).mono ?_; rintro e w' ⟨rfl, rfl⟩) | (go_at_call 33; refine (sub_any _ _ _).mono ?_; rintro e w' ⟨rfl, rfl⟩) | (go_at_call 34; refine (mul_any _ _ _).mono ?_; rintro e w' ⟨rfl, rfl⟩) | (go_at_call 35; refine (ceil_any _ _ _).mono ?_; rintro e w' ⟨rfl, rfl⟩) | (go_at_call 36; refine (twice_any _ _ _ hn0 hn1).mono ?_; rintro e w' ⟨rfl, hb2⟩) | (go_at_call 37; refine (grain_pos _ _ _ hy0).mono ?_; rintro e w' ⟨rfl, rfl⟩))
          go_ret
          exact ⟨rfl, hbe.trans (hb2.mono hbe.size)⟩

set_option maxRecDepth 100000 in
set_option maxHeartbeats 1000000 in
theorem counts_xy {B : Nat} (a b n : Int) (A : Option Addr) (c : Nat) (l : List Int) (w : World) (hn0 : -9223372036854775808 ≤ n) (hn1 : n ≤ 9223372036854775807) (hl : l.length ≤ 140737488351232) (hr : Reads w B 1 A l.length (ints l)) (hB : B ≤ w.heap.size)
    (hx0 : qty a = 0) (hy0 : qty b ≤ 0) :
    Calls Try.prog 12 #[.int .i64 a, .int .i64 b, .slice A l.length c, .int .i64 n] w fun e w' => e = .returned (.bool true) ∧ Below w.heap.size w w' := by
  have ha := (qty_le a).1
  have ha1 := (qty_le a).2
  have hb := (qty_le b).1
  have hb1 := (qty_le b).2
  have HX : (qty a == 0) = true := by simpa using hx0
  have hm0 := (mul_small ha hb (Or.inl hx0)).1
  have hm1 := (mul_small ha hb (Or.inl hx0)).2
  obtain ⟨d, hd⟩ : ∃ d, (if qty a - qty b < 0 then 0 else qty a - qty b) = d := ⟨_, rfl⟩
  have hS := Lib.hid ((sub_law a b).trans hd)
  have hM := Lib.hid ((mul_law ha hb).trans (if_pos (Or.inl hx0)))
  have hC := Lib.hid (((ceil_law ha ha1 hb).trans (if_neg (by omega))).trans (if_pos hx0))
  have hT := Lib.hid (twice_law (a := a) n)
  clear hx0
  go_enter Try.func12, Try.ntmps12
  go_wp2_with (go_at_call 38; refine (of33_any _ _).mono ?_; rintro e w' ⟨rfl, rfl⟩)
  go_loop [11, 25] (fun s i => ∃ k : Nat, k ≤ l.length ∧ i = .int .i64 k ∧ s = .int .i64 (addl (l.take k))) (fun _ i => l.length - (intOf i).toNat)
  case atStart => exact ⟨0, Nat.zero_le _, rfl, rfl⟩
  case round =>
    obtain ⟨k, hk, rfl, rfl⟩ := hrel
    by_cases hlt : k < l.length
    · obtain ⟨ad, u, rfl, _, hx, hc⟩ := hr.at_ hlt
      obtain ⟨_, rfl⟩ := ints_at hx
      have hs := addl_step l k hlt
      have hv := addl_le (l.take k)
      rw [← add1_min _ _ hv.1 hv.2] at hs
      have hv0 := hv.1
      have hv1 := hv.2
      have ht0 := (qty_le l[k]).1
      have ht1 := (qty_le l[k]).2
      have H := Lib.hid hs
      clear hs hx hv
      go_wp2_with (go_at_call 38; refine (of33_any _ _).mono ?_; rintro e w' ⟨rfl, rfl⟩)
      all_goals go_round
      case rel => exact ⟨k + 1, by omega, by go_num, by rw [H.out]⟩
      case measure => simp [intOf]; omega
    · obtain rfl : k = l.length := by omega
      go_wp2_with fail
      go_loopw [16, 18] (fun s i w' => Below w.heap.size w w' ∧ ∃ k : Nat, k ≤ min 50 n.toNat ∧ i = .int .i64 k ∧ s = .int .i64 (dblN k (qty a))) (fun _ i _ => 50 - (intOf i).toNat)
      case atStart => exact ⟨Below.refl _ _, 0, Nat.zero_le _, rfl, rfl⟩
      case round =>
        obtain ⟨hbe, k, hk, rfl, rfl⟩ := hrel
        have hk1 : (k : Int) ≤ 50 := by omega
        have hdk := dblN_le ha ha1 k
        have hdk0 := hdk.1
        have hdk1 := hdk.2
        clear hdk
        by_cases hlt : (k : Int) < n
        · by_cases hlt2 : (k : Int) < 50
          · obtain ⟨z, hz⟩ : ∃ z, (if 1099511627776 < 2 * dblN k (qty a) then 1099511627776 else 2 * dblN k (qty a)) = z := ⟨_, rfl⟩
            have HZ : Hid (z = dblN (k + 1) (qty a)) := hz.symm
            go_wp2_with fail
            go_roundw
            case rel => exact ⟨hbe, k + 1, by omega, by go_num, by rw [HZ.out]⟩
            case measure => simp [intOf]; omega
          · have hke : min 50 n.toNat = k := by omega
            have hS := hS.out
            have hM := hM.out
            have hC := hC.out
            have hT := hT.out
            rw [hke] at hT
            have hrw := hr.below (hbe.mono hB)
            clear hr hke 
            go_wp2_with (first | (go_at_call 39; refine (of_any _ _).mono ?_; rintro e w' ⟨rfl, rfl⟩) | (go_at_call 32; refine (add_any _ _ _ _ hl hrw).mono ?_; rintro e w' ⟨rfl, rfl⟩) | (go_at_call 33; refine (sub_any _ _ _).mono ?_; rintro e w' ⟨rfl, rfl⟩) | (go_at_call 34; refine (mul_any _ _ _).mono ?_; rintro e w' ⟨rfl, rfl⟩) | (go_at_call 35; refine (ceil_any _ _ _).mono ?_; rintro e w' ⟨rfl, rfl⟩) | (go_at_call 36; refine (twice_any _ _ _ hn0 hn1).mono ?_; rintro e w' ⟨rfl, hb2⟩) | (go_at_call 37; refine (grain_zero _ _ _ hy0).mono ?_; rintro e w' ⟨rfl, rfl⟩))
            go_ret
            exact ⟨rfl, hbe.trans (hb2.mono hbe.size)⟩
        · have hke : min 50 n.toNat = k := by omega
          have hS := hS.out
          have hM := hM.out
          have hC := hC.out
          have hT := hT.out
          rw [hke] at hT
          have hrw := hr.below (hbe.mono hB)
          clear hr hke 
          go_wp2_with (first | (go_at_call 39; refine (of_any _ _).mono ?_; rintro e w' ⟨rfl, rfl⟩) | (go_at_call 32; refine (add_any _ _ _ _ hl hrw).mono ?_; rintro e w' ⟨rfl, rfl⟩) | (go_at_call 33; refine (sub_any _ _ _).mono ?_; rintro e w' ⟨rfl, rfl⟩) | (go_at_call 34; refine (mul_any _ _ _).mono ?_; rintro e w' ⟨rfl, rfl⟩) | (go_at_call 35; refine (ceil_any _ _ _).mono ?_; rintro e w' ⟨rfl, rfl⟩) | (go_at_call 36; refine (twice_any _ _ _ hn0 hn1).mono ?_; rintro e w' ⟨rfl, hb2⟩) | (go_at_call 37; refine (grain_zero _ _ _ hy0).mono ?_; rintro e w' ⟨rfl, rfl⟩))
          go_ret
          exact ⟨rfl, hbe.trans (hb2.mono hbe.size)⟩

theorem counts_any {B : Nat} (a b n : Int) (A : Option Addr) (c : Nat) (l : List Int) (w : World) (hn0 : -9223372036854775808 ≤ n) (hn1 : n ≤ 9223372036854775807) (hl : l.length ≤ 140737488351232) (hr : Reads w B 1 A l.length (ints l)) (hB : B ≤ w.heap.size) :
    Calls Try.prog 12 #[.int .i64 a, .int .i64 b, .slice A l.length c, .int .i64 n] w fun e w' => e = .returned (.bool true) ∧ Below w.heap.size w w' := by
  by_cases hx0 : qty a = 0
  · by_cases hy0 : 0 < qty b
    · exact counts_x a b n A c l w hn0 hn1 hl hr hB hx0 hy0
    · exact counts_xy a b n A c l w hn0 hn1 hl hr hB hx0 (by omega)
  · by_cases hy0 : 0 < qty b
    · by_cases hxy : qty b ≤ 1099511627776 / qty a
      · exact counts_s a b n A c l w hn0 hn1 hl hr hB hx0 hy0 hxy
      · exact counts_b a b n A c l w hn0 hn1 hl hr hB hx0 hy0 (by omega)
    · exact counts_y a b n A c l w hn0 hn1 hl hr hB hx0 (by omega)
end Go.Proofs.Ytfnmpdohpbcegaa
