/- pack.fold, back33, signed33; pack.Int, Flag. -/
import Derived.Test.YtfnmpdohpbcegaaPack
namespace Go.Proofs.Ytfnmpdohpbcegaa
open Go Go.RowKit Go.ChangeShapes

/-- The number as which a signed one is packed, and the signed one that a number stands for. -/
def foldI (n : Int) : Int := bits .xor .u64 (IntKind.u64.wrap (IntKind.u64.wrap n * 2)) (IntKind.u64.wrap (n / 9223372036854775808))
def signI (n : Nat) : Int := bits .xor .i64 ((n : Int) / 2) (wrap64 (-wrap64 (bits .and .u64 (n : Int) 1)))
def foldN (n : Int) : Nat := (foldI n).toNat
theorem foldN_eq (n : Int) : foldI n = (foldN n : Int) ∧ foldN n < 18446744073709551616 := by
  have := bounds_u64 (wf_bits .xor .u64 (IntKind.u64.wrap (IntKind.u64.wrap n * 2)) (IntKind.u64.wrap (n / 9223372036854775808)))
  unfold foldN
  have h : foldI n = bits .xor .u64 (IntKind.u64.wrap (IntKind.u64.wrap n * 2)) (IntKind.u64.wrap (n / 9223372036854775808)) := rfl
  rw [← h] at this
  omega

theorem fold_any (n : Int) (w : World) : Calls Try.prog 143 #[.int .i64 n] w fun e w' => e = .returned (.int .u64 (foldN n : Int)) ∧ w = w' := by
  go_enter Try.func143, Try.ntmps143
  go_wp2_with fail
  go_ret
  exact ⟨by rw [← (foldN_eq n).1]; rfl, rfl⟩
theorem back_any (n : Int) (w : World) : Calls Try.prog 67 #[.int .i64 n] w fun e w' => e = .returned (.int .u64 (foldN n : Int)) ∧ w = w' := by
  go_enter Try.func67, Try.ntmps67
  go_wp2_with fail
  go_ret
  exact ⟨by rw [← (foldN_eq n).1]; rfl, rfl⟩
theorem signed_any (n : Nat) (w : World) (h : n < 18446744073709551616) : Calls Try.prog 61 #[.int .u64 (n : Int)] w fun e w' => e = .returned (.int .i64 (signI n)) ∧ w = w' := by
  go_enter Try.func61, Try.ntmps61
  go_wp2_with fail
  go_ret
  exact ⟨rfl, rfl⟩

theorem num_none {B : Nat} (A : Option Addr) (c : Nat) (bl : List UInt8) (w : World) (hB : B ≤ w.heap.size) (hr : Reads w B 1 A bl.length (byteCells bl)) (hl : bl.length ≤ 1000000) :
    Calls Try.prog 53 #[.slice A bl.length c, .slice none 0 0] w (RetBytes bl w) := by
  have := num_any (B' := 0) A c bl none 0 [] w hB hr (Nat.zero_le _) Reads.none_ (by simpa using hl) (by simp)
  simpa using this
theorem num_new {B : Nat} (A : Option Addr) (c : Nat) (bl : List UInt8) (n : Nat) (w : World) (hB : B ≤ w.heap.size) (hr : Reads w B 1 A bl.length (byteCells bl)) (hl : bl.length ≤ 900000) (hn : n < 18446744073709551616) :
    Calls Try.prog 53 #[.slice A bl.length c, .slice (some ⟨w.heap.size, 0, none⟩) 1 1] (w.alloc (.cells #[.int .u64 (n : Int)] 30)) fun e w' => RetBytes (bl ++ numP n) w e w' := by
  have := num_any A c bl (some ⟨w.heap.size, 0, none⟩) 1 [n] (w.alloc (.cells #[.int .u64 (n : Int)] 30)) (Nat.le_trans hB (by simp)) (hr.alloc hB _) (by simp) (Reads.new w (u64s [n]) 30 1 1 rfl) (by simp; omega) (by simpa using hn)
  refine this.mono ?_
  rintro e w' ⟨A2, rfl, hr2, hb2, hf2⟩
  simp only [List.flatMap_cons, List.flatMap_nil, List.append_nil] at hr2 ⊢
  exact ⟨A2, rfl, hr2, ((Below.refl _ w).alloc (Nat.le_refl _) _).trans (hb2.mono (by simp)), hf2.mono (by simp)⟩

set_option maxRecDepth 100000 in
set_option maxHeartbeats 4000000 in
theorem int_any {B B' : Nat} (A : Option Addr) (c : Nat) (bl : List UInt8) (A' : Option Addr) (n : Int) (w : World) (hB : B ≤ w.heap.size) (hr : Reads w B 1 A bl.length (byteCells bl)) (hB' : B' ≤ w.heap.size) (hr' : Reads w B' 1 A' 1 [.int .i64 n])
    (hl : bl.length ≤ 800000) :
    Calls Try.prog 54 #[.slice A bl.length c, .slice A' 1 1] w (RetBytes (bl ++ numP (foldN n)) w) := by
  obtain ⟨hf, hf2⟩ := foldN_eq n
  obtain ⟨ad, u, rfl, _, hx, hc⟩ := hr'.at_ (k := 0) (by omega)
  obtain rfl : Value.int .i64 n = u := by simpa using hx
  have HR' := Lib.hid hr'
  have HF := Lib.hid hf
  clear hr' hx hc hf
  go_enter Try.func54, Try.ntmps54
  go_wp2_with fail
  refine (num_none A c bl w hB hr (by omega)).mono ?_
  rintro e w1 ⟨A1, rfl, hr1, hb1, hf1⟩
  have HR1 := Lib.hid hr1
  clear hr1 hr
  go_wp2_with fail
  go_loopw [0, 11] (fun v i w' => ∃ (k : Nat) (A2 : Option Addr) (p2 : List UInt8), k ≤ 1 ∧ i = .int .i64 k ∧ v = .slice A2 p2.length p2.length ∧ p2 = bl ++ ([foldN n].take k).flatMap numP ∧ Reads w' w'.heap.size 1 A2 p2.length (byteCells p2) ∧ Below w.heap.size w w' ∧ Fresh w A2) (fun _ i _ => 1 - (intOf i).toNat)
  case atStart => exact ⟨0, A1, bl, by omega, rfl, rfl, by simp, HR1.out, hb1, hf1⟩
  case round =>
    obtain ⟨k, A2, p2, hk, rfl, rfl, hp, hr2, hb, hfr⟩ := hrel
    have HR2 := Lib.hid hr2
    clear hr2
    by_cases hlt : k < 1
    · obtain rfl : k = 0 := by omega
      have hc := (HR'.out.below (hb.mono hB')).2 (by omega)
      obtain ⟨ad', he, _, hc⟩ := hc
      obtain rfl : ad = ad' := by simpa using he
      have hc := hc 0 _ rfl
      rw [Addr.add_zero'] at hc
      obtain rfl : p2 = bl := by simpa using hp
      clear hp
      go_wp2_with fail
      refine (fold_any n _).mono ?_
      rintro e w3 ⟨rfl, rfl⟩
      go_wp2_with fail
      refine (num_new A2 _ _ (foldN n) _ (Nat.le_refl _) HR2.out (by omega) hf2).mono ?_
      rintro e w4 ⟨A4, rfl, hr4, hb4, hf4⟩
      have HR4 := Lib.hid hr4
      clear hr4
      have hb5 := hb.trans (hb4.mono hb.size)
      go_wp2_with fail
      go_roundw
      case rel => exact ⟨1, A4, p2 ++ numP (foldN n), by omega, rfl, by rw [List.length_append], by simp, HR4.out, hb5, hf4.mono hb.size⟩
      case measure => simp [intOf]
    · obtain rfl : k = 1 := by omega
      have HP := Lib.hid hp
      clear hp
      go_wp2_with fail
      go_ret
      refine ⟨A2, ?_⟩
      have h1 : p2 = bl ++ numP (foldN n) := by simpa using HP.out
      rw [← h1]
      exact ⟨rfl, HR2.out, hb, hfr⟩

set_option maxRecDepth 100000 in
set_option maxHeartbeats 4000000 in
theorem flag_any {B B' : Nat} (A : Option Addr) (c : Nat) (bl : List UInt8) (A' : Option Addr) (b : Bool) (w : World) (hB : B ≤ w.heap.size) (hr : Reads w B 1 A bl.length (byteCells bl)) (hB' : B' ≤ w.heap.size) (hr' : Reads w B' 1 A' 1 [.bool b])
    (hl : bl.length ≤ 800000) :
    Calls Try.prog 56 #[.slice A bl.length c, .slice A' 1 1] w (RetBytes (bl ++ numP (if b then 1 else 0)) w) := by
  obtain ⟨ad, u, rfl, _, hx, hc⟩ := hr'.at_ (k := 0) (by omega)
  obtain rfl : Value.bool b = u := by simpa using hx
  have HR' := Lib.hid hr'
  clear hr' hx hc
  obtain ⟨f, hf⟩ : ∃ f : Nat, (if b then 1 else 0) = f := ⟨_, rfl⟩
  rw [hf]
  go_enter Try.func56, Try.ntmps56
  go_wp2_with fail
  refine (num_none A c bl w hB hr (by omega)).mono ?_
  rintro e w1 ⟨A1, rfl, hr1, hb1, hf1⟩
  have HR1 := Lib.hid hr1
  clear hr1 hr
  go_wp2_with fail
  go_loopw [0, 12] (fun v i w' => ∃ (k : Nat) (A2 : Option Addr) (p2 : List UInt8), k ≤ 1 ∧ i = .int .i64 k ∧ v = .slice A2 p2.length p2.length ∧ p2 = bl ++ ([f].take k).flatMap numP ∧ Reads w' w'.heap.size 1 A2 p2.length (byteCells p2) ∧ Below w.heap.size w w' ∧ Fresh w A2) (fun _ i _ => 1 - (intOf i).toNat)
  case atStart => exact ⟨0, A1, bl, by omega, rfl, rfl, by simp, HR1.out, hb1, hf1⟩
  case round =>
    obtain ⟨k, A2, p2, hk, rfl, rfl, hp, hr2, hb, hfr⟩ := hrel
    have HR2 := Lib.hid hr2
    clear hr2
    by_cases hlt : k < 1
    · obtain rfl : k = 0 := by omega
      have hc := (HR'.out.below (hb.mono hB')).2 (by omega)
      obtain ⟨ad', he, _, hc⟩ := hc
      obtain rfl : ad = ad' := by simpa using he
      have hc := hc 0 _ rfl
      rw [Addr.add_zero'] at hc
      obtain rfl : p2 = bl := by simpa using hp
      clear hp
      cases b with
      | true =>
        obtain rfl : f = 1 := by simpa using hf.symm
        clear hf
        go_wp2_with fail
        refine (num_new A2 _ _ 1 _ (Nat.le_refl _) HR2.out (by omega) (by omega)).mono ?_
        rintro e w4 ⟨A4, rfl, hr4, hb4, hf4⟩
        have HR4 := Lib.hid hr4
        clear hr4
        have hb5 := hb.trans (hb4.mono hb.size)
        go_wp2_with fail
        go_roundw
        case rel => exact ⟨1, A4, p2 ++ numP 1, by omega, rfl, by rw [List.length_append], by simp, HR4.out, hb5, hf4.mono hb.size⟩
        case measure => simp [intOf]
      | false =>
        obtain rfl : f = 0 := by simpa using hf.symm
        clear hf
        go_wp2_with fail
        refine (num_new A2 _ _ 0 _ (Nat.le_refl _) HR2.out (by omega) (by omega)).mono ?_
        rintro e w4 ⟨A4, rfl, hr4, hb4, hf4⟩
        have HR4 := Lib.hid hr4
        clear hr4
        have hb5 := hb.trans (hb4.mono hb.size)
        go_wp2_with fail
        go_roundw
        case rel => exact ⟨1, A4, p2 ++ numP 0, by omega, rfl, by rw [List.length_append], by simp, HR4.out, hb5, hf4.mono hb.size⟩
        case measure => simp [intOf]
    · obtain rfl : k = 1 := by omega
      have HP := Lib.hid hp
      have HF := Lib.hid hf
      clear hp hf
      go_wp2_with fail
      go_ret
      refine ⟨A2, ?_⟩
      have h1 : p2 = bl ++ numP f := by simpa using HP.out
      rw [← h1]
      exact ⟨rfl, HR2.out, hb, hfr⟩
end Go.Proofs.Ytfnmpdohpbcegaa
