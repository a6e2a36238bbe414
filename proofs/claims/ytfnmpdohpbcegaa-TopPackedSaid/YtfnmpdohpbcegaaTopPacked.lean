/- TopPacked: the walk. -/
import Derived.Test.YtfnmpdohpbcegaaKnown33a
namespace Go.Proofs.Ytfnmpdohpbcegaa
open Go Go.RowKit Go.ChangeShapes

theorem reads_wm (m : Nat) (l : List UInt8) (A : Option Addr) (c : Nat) (ks : List UInt8) (n : Nat) (w : World) (hr : Reads w w.heap.size 1 A n (byteCells ks)) (hn : ks.length = n) (hl : l.length ≤ 100000) (hks : n ≤ 100000) (hm : m < 9223372036854775808) :
    Calls Try.prog 16 #[.string (bs l), .slice A n c, .int .i64 (m : Int)] w fun e w' => e = .returned (.tuple #[.int .i64 ((runK m ks true l : Nat) : Int), .bool true]) ∧ Below w.heap.size w w' :=
  reads_w l A c ks n m w hr hn hl hks hm
theorem reads_w0 (l : List UInt8) (A : Option Addr) (c : Nat) (ks : List UInt8) (n : Nat) (w : World) (hr : Reads w w.heap.size 1 A n (byteCells ks)) (hn : ks.length = n) (hl : l.length ≤ 100000) (hks : n ≤ 100000) (_h : 0 < 1) :
    Calls Try.prog 16 #[.string (bs l), .slice A n c, .int .i64 0] w fun e w' => e = .returned (.tuple #[.int .i64 ((runK 0 ks true l : Nat) : Int), .bool true]) ∧ Below w.heap.size w w' :=
  reads_w l A c ks n 0 w hr hn hl hks (by omega)
set_option maxRecDepth 100000 in
set_option maxHeartbeats 4000000 in
theorem toppacked_any {B B2 : Nat} (A : Option Addr) (c : Nat) (l : List BitP) (S : List UInt8) (A2 : Option Addr) (c2 : Nat) (ks : List UInt8) (most : Int) (w : World) (hB : B ≤ w.heap.size) (hr : Reads w B 3 A l.length (bitCells l)) (hl : l.length ≤ 9223372036854775807)
    (hn : ∀ x ∈ l, x.n < 18446744073709551616) (hS : S.length ≤ 9223372036854775807) (hB2 : B2 ≤ w.heap.size) (hr2 : Reads w B2 1 A2 ks.length (byteCells ks)) (hks : ks.length ≤ 9223372036854775807) (hm0 : -9223372036854775808 ≤ most) (hm1 : most ≤ 9223372036854775807) :
    Calls Try.prog 5 #[.slice A l.length c, .string (bs S), .slice A2 ks.length c2, .int .i64 most] w fun e w' => e = .returned (.bool true) ∧ Below w.heap.size w w' := by
  have hSs := bs_size S
  have hN := Lib.hid hn
  clear hn
  by_cases h1 : 20 < l.length
  · go_enter Try.func5, Try.ntmps5
    go_wp2_with fail
    refine (known33a_any _).mono ?_
    rintro e w1 ⟨rfl, hb1⟩
    go_wp2_with fail
    go_ret
    exact ⟨rfl, hb1⟩
  by_cases h2 : 200 < S.length
  · go_enter Try.func5, Try.ntmps5
    go_wp2_with fail
    refine (known33a_any _).mono ?_
    rintro e w1 ⟨rfl, hb1⟩
    go_wp2_with fail
    go_ret
    exact ⟨rfl, hb1⟩
  by_cases h3 : 30 < ks.length
  · go_enter Try.func5, Try.ntmps5
    go_wp2_with fail
    refine (known33a_any _).mono ?_
    rintro e w1 ⟨rfl, hb1⟩
    go_wp2_with fail
    go_ret
    exact ⟨rfl, hb1⟩
  go_enter Try.func5, Try.ntmps5
  go_wp2_with fail
  go_loopw [29] (fun i w' => ∃ k : Nat, k ≤ l.length ∧ i = .int .i64 k ∧ Below w.heap.size w w' ∧ ∀ j (hj : j < l.length), j < k → l[j].t.length ≤ 300) (fun i _ => l.length - (intOf i).toNat)
  case atStart => exact ⟨0, by omega, rfl, Below.refl _ _, fun _ _ h => absurd h (by omega)⟩
  case round =>
    obtain ⟨k, hk, rfl, hb, hlen⟩ := hrel
    by_cases hlt : k < l.length
    · obtain ⟨ad, rfl, _, hc0, hc12⟩ := (hr.below (hb.mono hB)).row hlt
      have hat := bitCells_at l k hlt
      have hc0 := hc0 _ hat.1
      have hc1 := hc12 1 _ (by omega) hat.2.1
      have hc2 := hc12 2 _ (by omega) hat.2.2
      have z1 := bs_size l[k].t
      have HB := Lib.hid hb
      have HL := Lib.hid hlen
      have HR2 := Lib.hid hr2
      clear hc12 hat hlen hb hr2
      by_cases hb : 300 < l[k].t.length
      · skip
        go_wp2_with fail
        refine (known33a_any _).mono ?_
        rintro e w1 ⟨rfl, hb1⟩
        go_wp2_with fail
        go_ret
        exact ⟨rfl, (HB.out.alloc HB.out.size _).trans (hb1.mono (by have := HB.out.size; simp; omega))⟩
      · go_wp2_with fail
        go_roundw
        case rel =>
          refine ⟨k + 1, by omega, by go_num, HB.out.alloc HB.out.size _, fun j hj hjk => ?_⟩
          rcases Nat.lt_or_ge j k with h | h
          · exact HL.out j hj h
          · obtain rfl : j = k := by omega
            omega
        case measure => simp [intOf]; omega
    · obtain rfl : k = l.length := by omega
      have hx : ∀ x ∈ l, x.n < 18446744073709551616 ∧ x.t.length ≤ 300 := fun x hx => ⟨hN.out x hx, by
        obtain ⟨j, hj, rfl⟩ := List.getElem_of_mem hx
        exact hlen j hj hj⟩
      have HX := Lib.hid hx
      have HR := Lib.hid (hr.below (hb.mono hB))
      have HR2 := Lib.hid (hr2.below (hb.mono hB2))
      have HB := Lib.hid hb
      have hs := hb.size
      clear hlen hr hr2 hx hb
      by_cases hm : most < 0
      · skip
        go_wp2_with fail
        refine (reads_w0 S A2 c2 ks ks.length _ ((HR2.out.more (by omega))) rfl (by omega) (by omega) (by omega)).mono ?_
        rintro e w1 ⟨rfl, hb1⟩
        go_wp2_with fail
        refine (packs_try A c l _ (Nat.le_trans (Nat.le_trans hB hs) hb1.size) (HR.out.below (hb1.mono (Nat.le_trans hB hs))) (by omega) HX.out).mono ?_
        rintro e w2 ⟨rfl, hb2⟩
        go_wp2_with fail
        refine (known33a_any _).mono ?_
        rintro e w3 ⟨rfl, hb3⟩
        have hb4 := HB.out.trans ((belStep hb3 (belStep hb2 hb1)).mono hs)
        clear hb1 hb2 hb3
        go_wp2_with fail
        go_ret
        exact ⟨rfl, hb4⟩
      · obtain ⟨m, rfl⟩ : ∃ m : Nat, most = (m : Int) := ⟨most.toNat, by omega⟩
        go_wp2_with fail
        refine (reads_wm m S A2 c2 ks ks.length _ ((HR2.out.more (by omega))) rfl (by omega) (by omega) (by omega)).mono ?_
        rintro e w1 ⟨rfl, hb1⟩
        go_wp2_with fail
        refine (packs_try A c l _ (Nat.le_trans (Nat.le_trans hB hs) hb1.size) (HR.out.below (hb1.mono (Nat.le_trans hB hs))) (by omega) HX.out).mono ?_
        rintro e w2 ⟨rfl, hb2⟩
        go_wp2_with fail
        refine (known33a_any _).mono ?_
        rintro e w3 ⟨rfl, hb3⟩
        have hb4 := HB.out.trans ((belStep hb3 (belStep hb2 hb1)).mono hs)
        clear hb1 hb2 hb3
        go_wp2_with fail
        go_ret
        exact ⟨rfl, hb4⟩
end Go.Proofs.Ytfnmpdohpbcegaa
