/- TopSealed: the walk. -/
import Derived.Test.YtfnmpdohpbcegaaKnown33b
namespace Go.Proofs.Ytfnmpdohpbcegaa
open Go Go.RowKit Go.ChangeShapes

theorem costN_small (l : List (List UInt8)) (n : Nat) (h : ∀ x ∈ l, x.length ≤ n) : costN l ≤ l.length * (n + 20) := by
  induction l with
  | nil => simp [costN]
  | cons a l ih =>
    have h1 := ih fun x hx => h x (List.mem_cons_of_mem _ hx)
    have h2 := h a List.mem_cons_self
    simp only [costN, List.map_cons, List.sum_cons, List.length_cons] at h1 ⊢
    rw [Nat.add_mul, Nat.one_mul]
    omega

set_option maxRecDepth 100000 in
set_option maxHeartbeats 4000000 in
theorem topsealed_any {B : Nat} (A : Option Addr) (c : Nat) (l : List (List UInt8)) (M : ByteArray) (cut turn : Nat) (w : World) (hB : B ≤ w.heap.size) (hr : Reads w B 1 A l.length (strs l)) (hl : l.length ≤ 9223372036854775807)
    (hcut : cut < 65536) (hturn : turn < 65536) :
    Calls Try.prog 4 #[.slice A l.length c, .string M, .int .u16 (cut : Int), .int .u16 (turn : Int)] w fun e w' => e = .returned (.bool true) ∧ Below w.heap.size w w' := by
  by_cases h1 : 8 < l.length
  · go_enter Try.func4, Try.ntmps4
    go_wp2_with fail
    refine (known_any _).mono ?_
    rintro e w1 ⟨rfl, hb1⟩
    go_wp2_with fail
    go_ret
    exact ⟨rfl, hb1⟩
  by_cases h2 : 100 < M.size
  · go_enter Try.func4, Try.ntmps4
    go_wp2_with fail
    refine (known_any _).mono ?_
    rintro e w1 ⟨rfl, hb1⟩
    go_wp2_with fail
    go_ret
    exact ⟨rfl, hb1⟩
  go_enter Try.func4, Try.ntmps4
  go_wp2_with fail
  go_loopw [22] (fun i w' => ∃ k : Nat, k ≤ l.length ∧ i = .int .i64 k ∧ w' = w ∧ ∀ j (hj : j < l.length), j < k → l[j].length ≤ 60) (fun i _ => l.length - (intOf i).toNat)
  case atStart => exact ⟨0, by omega, rfl, rfl, fun _ _ h => absurd h (by omega)⟩
  case round =>
    obtain ⟨k, hk, rfl, rfl, hlen⟩ := hrel
    by_cases hlt : k < l.length
    · obtain ⟨ad, u, rfl, _, hx, hc⟩ := hr.at_ hlt
      obtain ⟨_, rfl⟩ := strs_at hx
      have z1 := bs_size l[k]
      by_cases hb : 60 < l[k].length
      · have HL := Lib.hid hlen
        clear hx hlen
        go_wp2_with fail
        refine (known_any _).mono ?_
        rintro e w1 ⟨rfl, hb1⟩
        go_wp2_with fail
        go_ret
        exact ⟨rfl, hb1⟩
      · have HL := Lib.hid hlen
        clear hx hlen
        go_wp2_with fail
        go_roundw
        case rel =>
          refine ⟨k + 1, by omega, by go_num, trivial, fun j hj hjk => ?_⟩
          rcases Nat.lt_or_ge j k with h | h
          · exact HL.out j hj h
          · obtain rfl : j = k := by omega
            omega
        case measure => simp [intOf]; omega
    · obtain rfl : k = l.length := by omega
      have hcost := costN_small l 60 fun x hx => by
        obtain ⟨j, hj, rfl⟩ := List.getElem_of_mem hx
        exact hlen j hj hj
      have HL := Lib.hid hr
      clear hlen hr
      go_wp2_with fail
      have hsz : M.data.toList.length ≤ 100 := by have : M.data.toList.length = M.size := (by simp); omega
      refine (seals_try A c l M.data.toList cut turn _ hB HL.out (by omega) hsz hcut hturn).mono ?_
      rintro e w1 ⟨rfl, hb1⟩
      go_wp2_with fail
      refine (known_any _).mono ?_
      rintro e w2 ⟨rfl, hb2⟩
      go_wp2_with fail
      go_ret
      exact ⟨rfl, hb1.trans (hb2.mono hb1.size)⟩
end Go.Proofs.Ytfnmpdohpbcegaa
