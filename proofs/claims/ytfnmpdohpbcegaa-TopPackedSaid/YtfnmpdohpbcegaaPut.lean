/- frame.lead, frame.Put, framed33. -/
import Derived.Test.YtfnmpdohpbcegaaFrame
import Derived.Test.YtfnmpdohpbcegaaScan
namespace Go.Proofs.Ytfnmpdohpbcegaa
open Go Go.RowKit

/-- A row that is filled up to k. -/
def fillA (N : Nat) (z : Value) (f : Nat → Value) (k : Nat) : Array Value := ((List.range N).map fun j => if j < k then f j else z).toArray
theorem fillA_size (N : Nat) (z : Value) (f : Nat → Value) (k : Nat) : (fillA N z f k).size = N := by simp [fillA]
theorem fillA_at {N : Nat} (z : Value) (f : Nat → Value) (k j : Nat) (h : j < N) : (fillA N z f k)[j]? = some (if j < k then f j else z) := by simp [fillA, h]
theorem fillA_set {N : Nat} (z : Value) (f : Nat → Value) (k : Nat) (_h : k < N) : (fillA N z f k).setIfInBounds k (f k) = fillA N z f (k + 1) := by
  apply Array.ext_getElem?
  intro j
  rw [Array.getElem?_setIfInBounds]
  by_cases hj : j < N
  · rw [fillA_at _ _ _ _ hj, fillA_at _ _ _ _ hj, fillA_size]
    by_cases e : k = j
    · subst e; simp [_h]
    · simp [e, show (j < k + 1) = (j < k) by simp; omega]
  · simp [show ¬ k = j by omega, fillA, hj]

theorem sar_val {x k : Nat} : Value.int .u8 (((x : Int) / 2 ^ (8 * k)) % 256) = .int .u8 (((UInt8.ofNat (x / 256 ^ k)).toNat : Nat) : Int) := shr8_val

theorem fillA_full (N : Nat) (z : Value) (f : Nat → Value) : (fillA N z f N).toList = (List.range N).map f := by
  simp only [fillA]
  apply List.map_congr_left
  intro j hj
  rw [if_pos (by simpa using hj)]
theorem range_le8 (k n : Nat) : (List.range k).map (fun j => Value.int .u8 (((UInt8.ofNat (n / 256 ^ j)).toNat : Nat) : Int)) = byteCells (le8 k n) := by
  induction k with
  | zero => rfl
  | succ k ih => rw [List.range_succ, List.map_append, ih, le8_snoc]; simp [byteCells]

set_option maxRecDepth 100000 in
theorem lead_any (n : Nat) (w : World) : Calls Try.prog 139 #[.int .i64 (n : Int)] w fun e w' => e = .returned (.string (bs (sealedN (le8 4 n)))) ∧ Below w.heap.size w w' := by
  obtain ⟨f, hf⟩ : ∃ f : Nat → Value, f = fun j => .int .u8 (((UInt8.ofNat (n / 256 ^ j)).toNat : Nat) : Int) := ⟨_, rfl⟩
  go_enter Try.func139, Try.ntmps139
  go_wp2_with fail
  go_loopw [5] (fun i w' => ∃ k : Nat, k ≤ 4 ∧ i = .int .i64 k ∧ w' = w.alloc (.cells (fillA 4 (.int .u8 0) f k) 310)) (fun i _ => 4 - (intOf i).toNat)
  case atStart => exact ⟨0, by omega, rfl, rfl⟩
  case round =>
    obtain ⟨k, hk, rfl, rfl⟩ := hrel
    have HF := Lib.hid hf
    clear hf
    by_cases hlt : k < 4
    · have h1 := fillA_at (.int .u8 0) f k k hlt
      rw [if_neg (by omega)] at h1
      have h2 := fillA_set (.int .u8 0) f k hlt
      have H2 := Lib.hid h2
      clear h2
      go_wp2_with fail
      go_roundw
      case rel => exact ⟨k + 1, by omega, by go_num, by rw [← H2.out, sar_val, HF.out]⟩
      case measure => simp [intOf]; omega
    · obtain rfl : k = 4 := by omega
      have hr := Reads.block (n := 4) (size := 1) (heap_alloc_new w (.cells (fillA 4 (.int .u8 0) f 4) 310)) (by rw [fillA_size]; omega)
      rw [fillA_full, HF.out, range_le8] at hr
      rw [List.take_of_length_le (by simp [byteCells, le8_length])] at hr
      rw [← HF.out] at hr
      have HR := Lib.hid hr
      clear hr
      go_wp2_with (refine wpList_string_of rfl 29 9 5 (.tmp 16) rfl _ _ 4 4 _ rfl HR.out Try.underlying29 Try.underlying5 Try.underlying9 ?_)
      refine (seal_any _ _ (by show (le8 4 n).toArray.size ≤ _; simp [le8_length])).mono ?_
      rintro e w1 ⟨rfl, hb1⟩
      go_wp2_with fail
      go_ret
      exact ⟨rfl, ((Below.refl w.heap.size w).alloc (Nat.le_refl _) _).trans (hb1.mono (by simp))⟩

/-- A frame. -/
def framedN (l : List UInt8) : List UInt8 := sealedN (le8 4 l.length) ++ sealedN l
def putN (l : List (List UInt8)) : List UInt8 := l.flatMap framedN

theorem cells4 (n : Nat) (hn : n ≤ 262144) : byteCells (le8 4 n) = [.int .u8 ((n : Int) % 256), .int .u8 ((n : Int) / 256 % 256), .int .u8 ((n : Int) / 65536), .int .u8 ((n : Int) / 16777216)] := by
  have h : ∀ m : Nat, (((UInt8.ofNat m).toNat : Nat) : Int) = (m : Int) % 256 := fun m => by rw [UInt8.toNat_ofNat']; simp
  simp only [le8, byteCells, List.map_cons, List.map_nil, h]
  have e1 : ((n / 256 : Nat) : Int) % 256 = (n : Int) / 256 % 256 := by omega
  have e2 : ((n / 256 / 256 : Nat) : Int) % 256 = (n : Int) / 65536 := by omega
  have e3 : ((n / 256 / 256 / 256 : Nat) : Int) % 256 = (n : Int) / 16777216 := by omega
  rw [e1, e2, e3]

theorem bs_size (l : List UInt8) : (bs l).size = l.length := by show l.toArray.size = _; simp
theorem sealedN_length (l : List UInt8) : (sealedN l).length = l.length + 8 := by simp [sealedN, le8_length]
theorem framedN_length (l : List UInt8) : (framedN l).length = l.length + 20 := by simp [framedN, sealedN_length, le8_length]; omega
theorem bs_append (a b : List UInt8) : bs a ++ bs b = bs (a ++ b) := by
  apply ByteArray.ext
  simp [bs]

set_option maxRecDepth 100000 in
theorem framed33_any (S : ByteArray) (w : World) (hS : S.size ≤ 262144) : Calls Try.prog 49 #[.string S] w fun e w' => e = .returned (.string (bs (framedN S.data.toList))) ∧ Below w.heap.size w w' := by
  go_enter Try.func49, Try.ntmps49
  have hr := Reads.new w (byteCells (le8 4 S.size)) 5 4 1 rfl
  rw [cells4 _ hS, ← cells4 _ hS] at hr
  have hr2 := hr
  rw [cells4 _ hS] at hr2
  have hr3 : Reads (w.alloc (.cells #[.int .u8 ((S.size : Int) % 256), .int .u8 ((S.size : Int) / 256 % 256), .int .u8 ((S.size : Int) / 65536), .int .u8 ((S.size : Int) / 16777216)] 5)) (w.heap.size + 1) 1 (some ⟨w.heap.size, 0, none⟩) 4 (byteCells (le8 4 S.size)) := by rw [cells4 _ hS]; exact hr2
  have HR := Lib.hid hr3
  clear hr hr2 hr3
  go_wp2_with (refine wpList_string_of rfl 29 9 5 (.tmp 17) rfl _ _ 4 4 _ rfl HR.out Try.underlying29 Try.underlying5 Try.underlying9 ?_)
  refine (sealed33_any _ _ (by show (le8 4 S.size).toArray.size ≤ _; simp [le8_length])).mono ?_
  rintro e w1 ⟨rfl, hb1⟩
  go_wp2_with fail
  refine (sealed33_any _ _ (by omega)).mono ?_
  rintro e w2 ⟨rfl, hb2⟩
  have z1 : (bs (sealedN (le8 4 S.size))).size ≤ 12 := by rw [bs_size, sealedN_length, le8_length]; omega
  have z2 : (bs (sealedN S.data.toList)).size ≤ 300000 := by rw [bs_size, sealedN_length, toList_size]; omega
  go_wp2_with fail
  go_ret
  have h1 := (Below.refl w.heap.size w).alloc (Nat.le_refl _) (.cells #[.int .u8 ((S.size : Int) % 256), .int .u8 ((S.size : Int) / 256 % 256), .int .u8 ((S.size : Int) / 65536), .int .u8 ((S.size : Int) / 16777216)] 5)
  have h2 := h1.trans (hb1.mono (by simp))
  refine ⟨?_, h2.trans (hb2.mono h2.size)⟩
  unfold framedN
  rw [← bs_append, toList_size]
  rfl

theorem putN_length (l : List (List UInt8)) : (putN l).length = costN l := by
  induction l with
  | nil => rfl
  | cons a l ih => simp only [putN, List.flatMap_cons, List.length_append, framedN_length, costN, List.map_cons, List.sum_cons] at ih ⊢; omega
theorem putN_take (l : List (List UInt8)) (k : Nat) (h : k < l.length) : putN (l.take (k + 1)) = putN (l.take k) ++ framedN l[k] := by
  rw [List.take_succ_eq_append_getElem h]
  unfold putN
  rw [List.flatMap_append]
  simp
theorem strs_at {l : List (List UInt8)} {k : Nat} {u : Value} (h : (strs l)[k]? = some u) : ∃ hk : k < l.length, u = .string (bs l[k]) := by
  have hk : k < l.length := by
    rcases Nat.lt_or_ge k l.length with h1 | h1
    · exact h1
    · rw [List.getElem?_eq_none (by simpa [strs] using h1)] at h; cases h
  refine ⟨hk, ?_⟩
  rw [List.getElem?_eq_getElem (by simpa [strs] using hk)] at h
  injection h with h
  rw [← h]; simp [strs]
theorem bs_toList (l : List UInt8) : (bs l).data.toList = l := by simp [bs]
theorem lens_le {l : List (List UInt8)} {k : Nat} (h : k < l.length) : l[k].length + 20 ≤ costN l := by
  have h1 := costN_take l k (List.getElem?_eq_getElem h)
  have h2 := costN_le l (k + 1)
  omega

set_option maxRecDepth 100000 in
theorem put_any {B : Nat} (A : Option Addr) (c : Nat) (l : List (List UInt8)) (w : World) (hB : B ≤ w.heap.size) (hr : Reads w B 1 A l.length (strs l)) (hl : costN l ≤ 262144) :
    Calls Try.prog 40 #[.slice A l.length c] w fun e w' => e = .returned (.tuple #[.string (bs (putN l)), .int .i64 0]) ∧ Below w.heap.size w w' := by
  have hll := costN_ge l
  go_enter Try.func40, Try.ntmps40
  go_wp2_with fail
  go_loopw [4, 9] (fun s i w' => ∃ k : Nat, k ≤ l.length ∧ i = .int .i64 k ∧ s = .string (bs (putN (l.take k))) ∧ Below w.heap.size w w') (fun _ i _ => l.length - (intOf i).toNat)
  case atStart => exact ⟨0, by omega, rfl, rfl, Below.refl _ _⟩
  case round =>
    obtain ⟨k, hk, rfl, rfl, hb⟩ := hrel
    by_cases hlt : k < l.length
    · obtain ⟨ad, u, rfl, _, hx, hc⟩ := (hr.below (hb.mono hB)).at_ hlt
      obtain ⟨_, rfl⟩ := strs_at hx
      have hs := putN_take l k hlt
      have z1 : (bs (putN (l.take k))).size ≤ 262144 := by rw [bs_size, putN_length]; have := costN_le l k; omega
      have z2 : l[k].length ≤ 262144 := by have := lens_le hlt; omega
      have z3 := bs_size l[k]
      have z4 : (bs (sealedN (le8 4 l[k].length))).size ≤ 12 := by rw [bs_size, sealedN_length, le8_length]; omega
      have z5 : (bs (sealedN l[k])).size ≤ 300000 := by rw [bs_size, sealedN_length]; omega
      have z6 : (bs (sealedN (le8 4 l[k].length)) ++ bs (sealedN l[k])).size ≤ 400000 := by rw [ByteArray.size_append]; omega
      have HS := Lib.hid hs
      clear hs hx
      go_wp2_with fail
      refine (lead_any l[k].length _).mono ?_
      rintro e w1 ⟨rfl, hb1⟩
      go_wp2_with fail
      refine (seal_any (bs l[k]) _ (by omega)).mono ?_
      rintro e w2 ⟨rfl, hb2⟩
      rw [bs_toList]
      have hb3 := (hb.trans (hb1.mono hb.size)).trans (hb2.mono (Nat.le_trans hb.size hb1.size))
      go_wp2_with fail
      go_roundw
      case rel => exact ⟨k + 1, by omega, by go_num, by rw [HS.out, ← bs_append]; unfold framedN; rw [← bs_append], hb3⟩
      case measure => simp [intOf]; omega
    · obtain rfl : k = l.length := by omega
      go_wp2_with fail
      go_ret2
      exact ⟨by simp, hb⟩
end Go.Proofs.Ytfnmpdohpbcegaa
