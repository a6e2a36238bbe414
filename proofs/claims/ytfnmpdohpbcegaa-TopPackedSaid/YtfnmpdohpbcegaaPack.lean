/- pack.Num and its like. -/
import Derived.Test.YtfnmpdohpbcegaaPackPure
import Derived.OpenShut
import Derived.IntWalk
namespace Go.Proofs.Ytfnmpdohpbcegaa
open Go Go.RowKit Go.ChangeShapes

theorem gives_one (W : World) (v : Int) (b : UInt8) (h : v = ((b.toNat : Nat) : Int)) : Gives (W.alloc (.cells #[.int .u8 v] 5)) 1 (.slice (some ⟨W.heap.size, 0, none⟩) 1 1) 1 (byteCells [b]) := by
  subst h
  exact Gives.of_reads (Reads.new W [.int .u8 (b.toNat : Int)] 5 1 1 rfl)

set_option maxRecDepth 100000 in
set_option maxHeartbeats 2000000 in
theorem number33_any (n : Nat) (w : World) (hn : n < 18446744073709551616) :
    Calls Try.prog 66 #[.int .u64 (n : Int)] w fun e w' => e = .returned (.string (bs (numP n))) ∧ Below w.heap.size w w' := by
  have hlen := numP_ten hn
  go_enter Try.func66, Try.ntmps66
  go_wp2_with fail
  go_loopw [3, 0] (fun v x w' => ∃ (m : Nat) (pre : List UInt8), m ≤ n ∧ x = .int .u64 (m : Int) ∧ pre ++ numP m = numP n ∧ Own w' w.heap.size 5 1 v pre.length (byteCells pre) ∧ Below w.heap.size w w') (fun _ x _ => (intOf x).toNat)
  case atStart => exact ⟨n, [], Nat.le_refl _, rfl, rfl, Own.nil_ _ _ _ _, Below.refl _ _⟩
  case round =>
    obtain ⟨m, pre, hm, rfl, hpre, hown, hb⟩ := hrel
    have hl : pre.length ≤ 10 := by have := congrArg List.length hpre; simp at this; omega
    by_cases hlt : m < 128
    · have HP := Lib.hid hpre
      clear hpre
      go_wp2_with (at_builtin; refine app_bytes rfl (.tmp 15) (.tmp 18) 29 rfl (Or.inr rfl) w.heap.size _ _ _ rfl (hown.alloc _) _ 1 [UInt8.ofNat m] rfl (gives_one _ _ _ ?c0) ?c1 ?c2 ?_)
      case c0 => rw [ofNat_mod]; omega
      case c1 => omega
      case c2 => have := hb.size; simp; omega
      intro v5 w5 hown5 hg5 hv5
      have hb5 : Below w.heap.size w w5 := (hb.alloc hb.size _).grown hg5 (by have := hb.size; simp; omega) (fun k hk => (hown.lt k hk).1)
      have he : pre ++ [UInt8.ofNat m] = numP n := by rw [← HP.out, numP_small hlt]
      rw [he] at hown5
      obtain ⟨A, c, rfl, hr⟩ := hown5.reads
      have HR := Lib.hid hr
      clear hr hown5 hown hg5 hv5
      go_wp2_with (refine wpList_string_of rfl 29 9 5 (.tmp 19) rfl _ A _ c _ rfl HR.out Try.underlying29 Try.underlying5 Try.underlying9 ?_)
      go_ret
      exact ⟨rfl, hb5⟩
    · have he : (pre ++ [UInt8.ofNat (m % 128 + 128)]) ++ numP (m / 128) = numP n := by rw [← hpre, numP_big hlt]; simp
      have hv := ofNat_mod (m % 128 + 128)
      generalize UInt8.ofNat (m % 128 + 128) = c at *
      have HP := Lib.hid he
      have HV := Lib.hid hv
      clear hpre he hv
      go_wp2_with (at_builtin; refine app_bytes rfl (.tmp 8) (.tmp 13) 29 rfl (Or.inr rfl) w.heap.size _ _ _ rfl (hown.alloc _) _ 1 [c] rfl (gives_one _ _ _ ?c0) ?c1 ?c2 ?_)
      case c0 => rw [HV.out, and127 _ (by omega)]; omega
      case c1 => omega
      case c2 => have := hb.size; simp; omega
      intro v5 w5 hown5 hg5 hv5
      have hb5 : Below w.heap.size w w5 := (hb.alloc hb.size _).grown hg5 (by have := hb.size; simp; omega) (fun k hk => (hown.lt k hk).1)
      have HO := Lib.hid hown5
      clear hown hown5 hg5 hv5
      go_wp2_with fail
      go_roundw
      case rel => exact ⟨m / 128, pre ++ [c], by omega, by go_num, HP.out, by rw [List.length_append]; exact HO.out, hb5⟩
      case measure => simp [intOf]; omega

/-- What a slice lies in is new. -/
def Fresh (w : World) (A : Option Addr) : Prop := ∀ ad, A = some ad → w.heap.size ≤ ad.block
theorem Fresh.mono {w w' : World} {A : Option Addr} (h : Fresh w' A) (hs : w.heap.size ≤ w'.heap.size) : Fresh w A := fun ad e => Nat.le_trans hs (h ad e)
theorem Own.fresh {w w' : World} {e : TypeId} {size n c : Nat} {A : Option Addr} {m : Nat} {xs : List Value} (h : Own w' w.heap.size e size (.slice A m c) n xs) : Fresh w A := by
  intro ad hA
  subst hA
  rcases h.2 with ⟨hv, _⟩ | ⟨g, cap, cur, fr, hv, hb, _⟩
  · cases hv
  · injection hv with h1
    injection h1 with h1
    subst h1
    exact hb
/-- Bytes are handed back. -/
def RetBytes (l : List UInt8) (w : World) (e : Ending) (w' : World) : Prop :=
  ∃ A, e = .returned (.slice A l.length l.length) ∧ Reads w' w'.heap.size 1 A l.length (byteCells l) ∧ Below w.heap.size w w' ∧ Fresh w A

set_option maxRecDepth 100000 in
set_option maxHeartbeats 4000000 in
theorem num_any {B B' : Nat} (A : Option Addr) (c : Nat) (bl : List UInt8) (A' : Option Addr) (c' : Nat) (ns : List Nat) (w : World) (hB : B ≤ w.heap.size) (hr : Reads w B 1 A bl.length (byteCells bl)) (hB' : B' ≤ w.heap.size) (hr' : Reads w B' 1 A' ns.length (u64s ns))
    (hl : bl.length + 10 * ns.length ≤ 1000000) (hns : ∀ n ∈ ns, n < 18446744073709551616) :
    Calls Try.prog 53 #[.slice A bl.length c, .slice A' ns.length c'] w (RetBytes (bl ++ ns.flatMap numP) w) := by
  obtain ⟨i5, hi5, hz0, hz1, hz2⟩ := info_parts info5
  go_enter Try.func53, Try.ntmps53
  have HR' := Lib.hid hr'
  clear hr'
  go_wp2_with (at_make; refine wpList_make_gen rfl 29 (.const (.int .i64 0)) (.tmp 12) rfl w.heap.size 5 i5 _ 1 Try.underlying29 hi5 hz0 hz1 .i64 .i64 (bl.length + ns.length) rfl ?c0 ?c1 ?c2 ?c3 ?_)
  case c0 => rw [Int.natCast_add]; rfl
  case c1 => rw [hz2]; omega
  case c2 => unfold maxLen; omega
  case c3 => exact Nat.le_refl _
  intro w2 hown hb2 hsz2
  have hr2 := hr.below (hb2.mono hB)
  have H2 := Lib.hid hsz2
  have HB2 := Lib.hid hb2
  clear hsz2 hb2 hi5 hz0 hz1 hz2
  go_wp2_with (at_builtin; refine app_bytes rfl (.tmp 13) (.tmp 14) 29 rfl (Or.inr rfl) w.heap.size _ 0 [] rfl hown _ _ bl rfl (Gives.of_reads hr2) ?c1 ?c2 ?_)
  case c1 => omega
  case c2 => exact HB2.out.size
  intro v3 w3 hown3 hg3 hv3
  have hown3 : Own w3 w.heap.size 5 1 v3 bl.length (byteCells bl) := by simpa using hown3
  have hb3 : Below w.heap.size w w3 := HB2.out.grown hg3 HB2.out.size (fun k hk => (hown.lt k hk).1)
  clear hown hg3 hv3 hr2 hr H2 HB2
  have hnl : ∀ k (hk : k < ns.length), (numP ns[k]).length ≤ 10 ∧ ns[k] < 18446744073709551616 := fun k hk => ⟨numP_ten (hns _ (List.getElem_mem hk)), hns _ (List.getElem_mem hk)⟩
  have HN := Lib.hid hnl
  clear hnl hns
  go_wp2_with fail
  go_loopw [5, 18] (fun v i w' => ∃ (k : Nat) (pre : List UInt8), k ≤ ns.length ∧ i = .int .i64 k ∧ pre = bl ++ (ns.take k).flatMap numP ∧ pre.length ≤ bl.length + 10 * k ∧ Own w' w.heap.size 5 1 v pre.length (byteCells pre) ∧ Below w.heap.size w w') (fun _ i _ => ns.length - (intOf i).toNat)
  case atStart => exact ⟨0, bl, by omega, rfl, by simp, by omega, hown3, hb3⟩
  case round =>
    obtain ⟨k, pre, hk, rfl, hpre, hlp, hown, hb⟩ := hrel
    by_cases hlt : k < ns.length
    · obtain ⟨ad, u, rfl, _, hx, hc⟩ := (HR'.out.below (hb.mono hB')).at_ hlt
      obtain ⟨_, rfl⟩ := u64s_at hx
      have hlen := (HN.out k hlt).1
      have hn := (HN.out k hlt).2
      have hnext : pre ++ numP ns[k] = bl ++ (ns.take (k + 1)).flatMap numP := by
        rw [List.take_succ_eq_append_getElem hlt, List.flatMap_append, hpre]
        simp
      have HX := Lib.hid hnext
      clear hx hpre hnext
      generalize ns[k] = n at *
      go_wp2_with fail
      clear hc
      go_loopw [5, 7] (fun v x w' => ∃ (m : Nat) (p2 : List UInt8), m ≤ n ∧ x = .int .u64 (m : Int) ∧ p2 ++ numP m = pre ++ numP n ∧ Own w' w.heap.size 5 1 v p2.length (byteCells p2) ∧ Below w.heap.size w w') (fun _ x _ => (intOf x).toNat)
      case atStart => exact ⟨n, pre, Nat.le_refl _, rfl, rfl, hown, hb⟩
      case round =>
        clear hown hb
        obtain ⟨m, p2, hm, rfl, hpre, hown, hb⟩ := hrel
        have hl2 : p2.length ≤ bl.length + 10 * k + 10 := by have := congrArg List.length hpre; simp at this; omega
        by_cases hsm : m < 128
        · have he : p2 ++ [UInt8.ofNat m] = pre ++ numP n := by rw [← hpre, numP_small hsm]
          have hv := ofNat_mod m
          generalize UInt8.ofNat m = y at *
          have HP := Lib.hid he
          have HV := Lib.hid hv
          clear hpre he hv
          go_wp2_with (at_builtin; refine app_bytes rfl (.tmp 32) (.tmp 35) 29 rfl (Or.inr rfl) w.heap.size _ _ _ rfl (hown.alloc _) _ 1 [y] rfl (gives_one _ _ _ ?c0) ?c1 ?c2 ?_)
          case c0 => rw [HV.out]; omega
          case c1 => omega
          case c2 => have := hb.size; simp; omega
          intro v5 w5 hown5 hg5 hv5
          have hb5 : Below w.heap.size w w5 := (hb.alloc hb.size _).grown hg5 (by have := hb.size; simp; omega) (fun k hk => (hown.lt k hk).1)
          have HO := Lib.hid hown5
          clear hown hown5 hg5 hv5
          go_wp2_with fail
          go_roundw
          case rel => exact ⟨k + 1, p2 ++ [y], by omega, by go_num, by rw [HP.out, HX.out], by have := congrArg List.length HP.out; simp at this ⊢; omega, by rw [List.length_append]; exact HO.out, hb5⟩
          case measure => simp [intOf]; omega
        · have he : (p2 ++ [UInt8.ofNat (m % 128 + 128)]) ++ numP (m / 128) = pre ++ numP n := by rw [← hpre, numP_big hsm]; simp
          have hv := or128_val m
          generalize UInt8.ofNat (m % 128 + 128) = y at *
          have HP := Lib.hid he
          have HV := Lib.hid hv
          clear hpre he hv
          go_wp2_with (at_builtin; refine app_bytes rfl (.tmp 26) (.tmp 30) 29 rfl (Or.inr rfl) w.heap.size _ _ _ rfl (hown.alloc _) _ 1 [y] rfl (gives_one _ _ _ HV.out) ?c1 ?c2 ?_)
          case c1 => omega
          case c2 => have := hb.size; simp; omega
          intro v5 w5 hown5 hg5 hv5
          have hb5 : Below w.heap.size w w5 := (hb.alloc hb.size _).grown hg5 (by have := hb.size; simp; omega) (fun k hk => (hown.lt k hk).1)
          have HO := Lib.hid hown5
          clear hown hown5 hg5 hv5
          go_wp2_with fail
          go_roundw
          case rel => exact ⟨m / 128, p2 ++ [y], by omega, by go_num, HP.out, by rw [List.length_append]; exact HO.out, hb5⟩
          case measure => simp [intOf]; omega
    · obtain rfl : k = ns.length := by omega
      rw [List.take_length] at hpre
      have HPre := Lib.hid hpre
      obtain ⟨A2, c2, rfl, hr2⟩ := hown.reads
      have hcl := hown.cap_le
      have hfr := hown.fresh
      have HR2 := Lib.hid hr2
      clear hr2 hown hpre
      go_wp2_with fail
      go_ret
      rw [← HPre.out]
      exact ⟨A2, rfl, HR2.out, hb, hfr⟩
end Go.Proofs.Ytfnmpdohpbcegaa
