/- known33b: a closed run; TopSealed. -/
import Derived.Test.YtfnmpdohpbcegaaSeals
namespace Go.Proofs.Ytfnmpdohpbcegaa
open Go Go.RowKit Go.ChangeShapes

def abP : List UInt8 := putN [[97, 98]]
theorem ab_sum : sumN [49, 50, 51, 52, 53, 54, 55, 56, 57] = 11051210869376104954 := by decide +kernel
theorem ab_frame : frameN (abP ++ abP.take 21) = some 2 := by decide +kernel
theorem ab_rest : frameN ((abP ++ abP.take 21).drop 22) = none := by decide +kernel
theorem ab_text : textN (abP ++ abP.take 21) 2 = [97, 98] := by decide +kernel
theorem ab_scan : scanN (abP ++ abP.take 21) = [[97, 98]] := by
  rw [scanN_some ab_frame, ab_text, scanN_none ab_rest]
theorem ab_head : abP.take 4 = [2, 0, 0, 0] := by decide +kernel
theorem ab_length : abP.length = 22 := by decide +kernel
theorem ext_take (l : List UInt8) (n : Nat) : (bs l).extract 0 n = bs (l.take n) := by
  apply ByteArray.ext
  apply Array.toList_inj.1
  simp [bs, ByteArray.data_extract]
theorem abc_cost : costN [[97, 98], [], [99]] ≤ 10000 := by decide +kernel
theorem crc_sum9 : sumN (bs [49, 50, 51, 52, 53, 54, 55, 56, 57]).data.toList = 11051210869376104954 := by rw [bs_toList]; exact ab_sum

set_option maxRecDepth 100000 in
set_option maxHeartbeats 4000000 in
theorem known_try (w : World) : Calls Try.prog 13 #[] w fun e w' => e = .returned (.bool true) ∧ Below w.heap.size w w' := by
  go_enter Try.func13, Try.ntmps13
  go_wp2_with fail
  refine (put_any _ 1 [[97, 98]] _ (Nat.le_of_eq (Array.size_push _).symm) (Reads.new w (strs [[97, 98]]) 9 1 1 rfl) (by decide)).mono ?_
  rintro e w1 ⟨rfl, hb1⟩
  have hS : (bs (putN [[97, 98]])).size = 22 := by rw [bs_size]; exact ab_length
  have hT : (bs (putN [[97, 98]])).extract 0 4 = bs [2, 0, 0, 0] := by rw [ext_take]; exact congrArg bs ab_head
  have hU : scanN (bs (putN [[97, 98]]) ++ (bs (putN [[97, 98]])).extract 0 21).data.toList = [[97, 98]] := by rw [ext_take, bs_append, bs_toList]; exact ab_scan
  have hV : (bs (putN [[97, 98]]) ++ (bs (putN [[97, 98]])).extract 0 21).size ≤ 100 := by rw [ext_take, bs_append, bs_size, List.length_append, List.length_take]; have := ab_length; unfold abP at this; omega
  have hW : (!((bs (putN [[97, 98]])).extract 0 4).toList == [2, 0, 0, 0]) = false := by rw [hT]; decide +kernel
  generalize bs (putN [[97, 98]]) = S at *
  have HU := Lib.hid hU
  clear hT hU
  go_wp2_with fail
  refine (scan_any _ _ (by omega)).mono ?_
  rw [HU.out, show costN [[97, 98]] = 22 from rfl]
  rintro e w2 ⟨A, c, rfl, hr2, hb2⟩
  have hb3 : Below w.heap.size w w2 := ((Below.refl _ w).alloc (Nat.le_refl _) _).trans ((hb1.mono (Nat.le_of_lt (by rw [show (w.alloc (.cells (strs [[97, 98]]).toArray 9)).heap.size = w.heap.size + 1 from Array.size_push _]; omega))).trans (hb2.mono (Nat.le_trans (Nat.le_of_lt (by rw [show (w.alloc (.cells (strs [[97, 98]]).toArray 9)).heap.size = w.heap.size + 1 from Array.size_push _]; omega)) hb1.size)))
  have HR2 := Lib.hid hr2
  have HB3 := Lib.hid hb3
  clear hb1 hb2 hr2 hb3
  go_wp2_with fail
  refine (sum_any _ _ (by decide)).mono ?_
  rintro e w3 ⟨rfl, hb4⟩
  have hs9 := crc_sum9
  change sumN (ByteArray.mk #[49, 50, 51, 52, 53, 54, 55, 56, 57]).data.toList = _ at hs9
  rw [hs9]
  have hb5 := HB3.out.trans (hb4.mono HB3.out.size)
  have HR4 := Lib.hid (HR2.out.below hb4)
  have H32 := hb4.size
  have HB5 := Lib.hid hb5
  clear hb4 hb5
  go_wp2_with fail
  refine (sum_any _ _ (by decide)).mono ?_
  rintro e w4 ⟨rfl, hb4⟩
  rw [show sumN (ByteArray.mk #[]).data.toList = 0 by decide +kernel]
  have hb5 := HB5.out.trans (hb4.mono HB5.out.size)
  have hr5 := (HR4.out.more (B' := w3.heap.size) H32).below hb4
  obtain ⟨ad, u, rfl, _, hx, hc⟩ := hr5.at_ (k := 0) (by decide)
  obtain ⟨_, rfl⟩ := strs_at hx
  have hc0 : w4.cell? ad = some (.string ⟨#[97, 98]⟩) := by rw [Addr.add_zero'] at hc; exact hc
  have HB6 := Lib.hid hb5
  have e3 : strs [[97, 98], [], [99]] = [.string ⟨#[97, 98]⟩, .string ⟨#[]⟩, .string ⟨#[99]⟩] := rfl
  clear hr5 hx
  clear hb4 hb5
  go_wp2_with fail
  refine (sum33_any _ _ (by decide)).mono ?_
  rintro e w5 ⟨rfl, rfl⟩
  rw [hs9]
  go_wp2_with fail
  refine (seals_try _ 3 [[97, 98], [], [99]] [120, 121, 122] 30 263 _ (Nat.le_of_eq (World.size_alloc _ _).symm) (Reads.new w4 (strs [[97, 98], [], [99]]) 9 3 1 rfl) abc_cost (by decide) (by decide) (by decide)).mono ?_
  rintro e w6 ⟨rfl, hb7⟩
  have hb8 : Below w.heap.size w w6 := (HB6.out.alloc HB6.out.size _).trans (hb7.mono (by rw [World.size_alloc]; have := HB6.out.size; omega))
  have HB8 := Lib.hid hb8
  clear hb7 hb8
  go_wp2_with fail
  go_ret
  exact ⟨rfl, HB8.out⟩

theorem known_any (w : World) : Calls Try.prog 13 #[] w fun e w' => e = .returned (.bool true) ∧ Below w.heap.size w w' := known_try w
end Go.Proofs.Ytfnmpdohpbcegaa
