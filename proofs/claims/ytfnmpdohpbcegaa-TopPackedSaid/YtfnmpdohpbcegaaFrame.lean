/- Contracts of package frame's functions: Cost, size. -/
import Derived.Test.YtfnmpdohpbcegaaFramePure
import Derived.Test.YtfnmpdohpbcegaaSat
namespace Go.Proofs.Ytfnmpdohpbcegaa
open Go.RowKit

theorem cost_any (n : Int) (w : World) (h : n ≤ 9223372036854775000) : Calls Try.prog 47 #[.int .i64 n] w fun e w' => e = .returned (.int .i64 ((if n < 0 then 0 else n) + 20)) ∧ w = w' := by
  by_cases h0 : n < 0
  · rw [if_pos h0]
    go_enter Try.func47, Try.ntmps47
    go_wp2
    go_ret
    exact ⟨rfl, rfl⟩
  · rw [if_neg h0]
    go_enter Try.func47, Try.ntmps47
    go_wp2
    go_ret
    exact ⟨ret_i64 (by omega), rfl⟩

theorem openV_of (l : List UInt8) (b : Bool) (h : openN l = b) : openV l = .tuple #[.string (if b then bs (l.take (l.length - 8)) else bs []), .bool b] := by
  unfold openV; rw [h]

/-- What 'size' tells. -/
def sizeV (l : List UInt8) : Value := match headN l with
  | some n => .tuple #[.int .i64 (n : Int), .bool true]
  | none => .tuple #[.int .i64 (if 12 ≤ l.length ∧ openN (l.take 12) = true then (leN (l.take 4) : Int) else 0), .bool false]

set_option maxRecDepth 100000 in
theorem size_any (S : ByteArray) (w : World) (hS : S.size ≤ 140737488351232) :
    Calls Try.prog 205 #[.string S] w fun e w' => e = .returned (sizeV S.data.toList) ∧ Below w.heap.size w w' := by
  by_cases h : 12 ≤ S.size
  · cases ho : openN (S.data.toList.take 12)
    · have hv := openV_of _ _ ho
      have HV := Lib.hid hv
      go_enter Try.func205, Try.ntmps205
      go_wp2_with fail
      refine (open_any _ _ (by simp; omega)).mono ?_
      rintro e w1 ⟨rfl, hb1⟩
      rw [take_data, HV.out]
      go_wp2_with fail
      go_ret2
      refine ⟨?_, hb1⟩
      unfold sizeV headN
      rw [toList_size]
      simp [ho]
    · have hv : openV (S.data.toList.take 12) = .tuple #[.string (bs (S.data.toList.take 4)), .bool true] := by
        rw [openV_of _ _ ho]
        simp [List.take_take]
        rw [show min (min 12 S.size - 8) 12 = 4 by omega]
      have HV := Lib.hid hv
      have hsz : (bs (S.data.toList.take 4)).size = 4 := by show (S.data.toList.take 4).toArray.size = 4; simp; omega
      clear hv
      go_enter Try.func205, Try.ntmps205
      go_wp2_with fail
      refine (open_any _ _ (by simp; omega)).mono ?_
      rintro e w1 ⟨rfl, hb1⟩
      rw [take_data, HV.out]
      go_wp2_with fail
      go_loop [6, 21] (fun n i => ∃ k : Nat, k ≤ 4 ∧ i = .int .i64 k ∧ n = .int .i64 ((leN ((S.data.toList.take 4).take k) : Nat) : Int)) (fun _ i => 4 - (intOf i).toNat)
      case atStart => exact ⟨0, by omega, rfl, rfl⟩
      case round =>
        obtain ⟨k, hk, rfl, rfl⟩ := hrel
        by_cases hlt : k < 4
        · have hxl := leN_lt ((S.data.toList.take 4).take k)
          go_wp2_with fail
          have hlen : k < (S.data.toList.take 4).length := by simp; omega
          have hs := leN_snoc (S.data.toList.take 4) k hlen
          rw [List.length_take, Nat.min_eq_left (by omega)] at hxl
          have ho2 := or_step hlt hxl (UInt8.toNat_lt ((S.data.toList.take 4)[k]))
          rw [← hs] at ho2
          go_round
          case rel => exact ⟨k + 1, by omega, by go_num, by rw [← ho2]; rfl⟩
          case measure => simp [intOf]; omega
        · obtain rfl : k = 4 := by omega
          have hl4 := leN_lt (S.data.toList.take 4)
          rw [List.length_take, toList_size, Nat.min_eq_left (by omega)] at hl4
          have hv : sizeV S.data.toList = .tuple #[.int .i64 ((leN (S.data.toList.take 4) : Nat) : Int), .bool (decide ((leN (S.data.toList.take 4) : Int) ≤ 262144))] := by
            unfold sizeV headN
            rw [toList_size]
            by_cases hm : leN (S.data.toList.take 4) ≤ 262144
            · rw [if_pos ⟨h, ho, hm⟩]
              simp [show ((leN (S.data.toList.take 4) : Int) ≤ 262144) from by omega]
            · rw [if_neg (fun hh => hm hh.2.2)]
              simp [h, ho, show ¬ ((leN (S.data.toList.take 4) : Int) ≤ 262144) from by omega]
          have HV2 := Lib.hid hv
          clear hv
          go_wp2_with fail
          go_ret2
          refine ⟨?_, hb1⟩
          rw [HV2.out]
          simp [List.take_take]
  · go_enter Try.func205, Try.ntmps205
    go_wp2_with fail
    go_ret2
    refine ⟨?_, Below.refl _ _⟩
    unfold sizeV headN
    rw [toList_size]
    simp [h]

theorem ext_mid (S : ByteArray) (a b : Nat) : (S.extract a b).data.toList = (S.data.toList.take b).drop a := by
  rw [Lib.extract_data, List.drop_take]
theorem open_mid (S : ByteArray) (n : Nat) (w : World) (hS : S.size ≤ 140737488351232) (hn : n + 20 ≤ S.size) (ho : openN ((S.data.toList.take (n + 20)).drop 12) = true) :
    Calls Try.prog 48 #[.string (S.extract 12 (n + 20))] w fun e w' => e = .returned (.tuple #[.string (bs (textN S.data.toList n)), .bool true]) ∧ Below w.heap.size w w' := by
  refine (open_any _ _ (by simp; omega)).mono ?_
  rintro e w' ⟨rfl, hb⟩
  refine ⟨?_, hb⟩
  rw [ext_mid, openV_of _ _ ho]
  have : List.take ((List.drop 12 (List.take (n + 20) S.data.toList)).length - 8) (List.drop 12 (List.take (n + 20) S.data.toList)) = textN S.data.toList n := by
    unfold textN
    rw [List.length_drop, List.length_take, toList_size, Nat.min_eq_left hn, List.drop_take, List.take_take]
    congr 1
    omega
  rw [this]
  simp
theorem open_bad (S : ByteArray) (n : Nat) (w : World) (hS : S.size ≤ 140737488351232) (ho : openN ((S.data.toList.take (n + 20)).drop 12) = false) :
    Calls Try.prog 48 #[.string (S.extract 12 (n + 20))] w fun e w' => e = .returned (.tuple #[.string (bs []), .bool false]) ∧ Below w.heap.size w w' := by
  refine (open_any _ _ (by simp; omega)).mono ?_
  rintro e w' ⟨rfl, hb⟩
  refine ⟨?_, hb⟩
  rw [ext_mid, openV_of _ _ ho]
  simp
end Go.Proofs.Ytfnmpdohpbcegaa
