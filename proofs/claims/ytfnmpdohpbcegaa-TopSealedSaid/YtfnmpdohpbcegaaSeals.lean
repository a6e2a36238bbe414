/- seals33, first loop. -/
import Derived.Test.YtfnmpdohpbcegaaSame
import Derived.Test.YtfnmpdohpbcegaaScan
import Derived.OpenShut
namespace Go.Proofs.Ytfnmpdohpbcegaa
open Go Go.RowKit Go.ChangeShapes

theorem cost_nat (n : Nat) (w : World) (h : n ≤ 9223372036854775000) : Calls Try.prog 47 #[.int .i64 (n : Int)] w fun e w' => e = .returned (.int .i64 ((n : Int) + 20)) ∧ w = w' := by
  have := cost_any n w (by omega)
  rw [if_neg (by omega)] at this
  exact this
theorem openN_sealed (l : List UInt8) : openN (sealedN l) = true := by
  unfold openN
  rw [sealedN_length]
  have : (sealedN l).take (l.length + 8 - 8) = l := by unfold sealedN; rw [Nat.add_sub_cancel, List.take_left']; rfl
  rw [this]
  simp
theorem openV_sealed (l : List UInt8) : openV (sealedN l) = .tuple #[.string (bs l), .bool true] := by
  rw [openV_of _ _ (openN_sealed l), sealedN_length]
  have : (sealedN l).take (l.length + 8 - 8) = l := by unfold sealedN; rw [Nat.add_sub_cancel, List.take_left']; rfl
  rw [this]
  rfl
theorem bs_data_append (a b : List UInt8) : (bs a ++ bs b).data.toList = a ++ b := by rw [bs_append, bs_toList]
theorem bytes_set (l : List UInt8) (j : Nat) (v : Int) (h : (Lit.int .u8 v).wf = true) : ∃ b : UInt8, (byteCells l).set j (.int .u8 v) = byteCells (l.set j b) := by
  have hb := bounds_u8 h
  refine ⟨UInt8.ofNat v.toNat, ?_⟩
  have : v = (((UInt8.ofNat v.toNat).toNat : Nat) : Int) := by
    rw [UInt8.toNat_ofNat', Nat.mod_eq_of_lt (by omega)]
    omega
  unfold byteCells
  rw [List.map_set]
  rw [← this]
theorem flat_take (l : List (List UInt8)) (k : Nat) (h : k < l.length) : (l.take (k + 1)).flatten = (l.take k).flatten ++ l[k] := by
  rw [List.take_succ_eq_append_getElem h, List.flatten_append]
  simp
theorem flat_le (l : List (List UInt8)) : l.flatten.length ≤ costN l := by
  induction l with
  | nil => simp [costN]
  | cons a l ih => simp only [List.flatten_cons, List.length_append, costN, List.map_cons, List.sum_cons] at ih ⊢; omega

set_option maxRecDepth 100000 in
set_option maxHeartbeats 4000000 in
theorem seals_try {B : Nat} (A : Option Addr) (c : Nat) (l : List (List UInt8)) (more : List UInt8) (cut turn : Nat) (w : World) (hB : B ≤ w.heap.size) (hr : Reads w B 1 A l.length (strs l)) (hl : costN l ≤ 10000) (hm : more.length ≤ 100)
    (hcut : cut < 65536) (hturn : turn < 65536) :
    Calls Try.prog 14 #[.slice A l.length c, .string (bs more), .int .u16 (cut : Int), .int .u16 (turn : Int)] w fun e w' => e = .returned (.bool true) ∧ Below w.heap.size w w' := by
  have hll := costN_ge l
  go_enter Try.func14, Try.ntmps14
  go_wp2_with fail
  go_loopw [9, 10, 37] (fun s t i w' => ∃ k : Nat, k ≤ l.length ∧ i = .int .i64 k ∧ s = .string (bs (putN (l.take k))) ∧ t = .string (bs (l.take k).flatten) ∧ Below w.heap.size w w') (fun _ _ i _ => l.length - (intOf i).toNat)
  case atStart => exact ⟨0, by omega, rfl, rfl, rfl, Below.refl _ _⟩
  case round =>
    obtain ⟨k, hk, rfl, rfl, rfl, hb⟩ := hrel
    by_cases hlt : k < l.length
    · obtain ⟨ad, u, rfl, _, hx, hc⟩ := (hr.below (hb.mono hB)).at_ hlt
      obtain ⟨_, rfl⟩ := strs_at hx
      have hs := putN_take l k hlt
      have hf := flat_take l k hlt
      have z1 : (bs (putN (l.take k))).size ≤ 10000 := by rw [bs_size, putN_length]; have := costN_le l k; omega
      have z2 : l[k].length ≤ 10000 := by have := lens_le hlt; omega
      have z3 := bs_size l[k]
      have z4 : (bs (l.take k).flatten).size ≤ 10000 := by rw [bs_size]; have := flat_le (l.take k); have := costN_le l k; omega
      have hM : moreN (sumN (l.take k).flatten) l[k] = sumN (bs (l.take k).flatten ++ bs l[k]).data.toList := by rw [bs_data_append, moreN_sumN]
      have z5 : (bs (framedN l[k])).size ≤ 20000 := by rw [bs_size, framedN_length]; omega
      have z6 := sumN_lt (l.take k).flatten
      have HS := Lib.hid hs
      have HF := Lib.hid hf
      have HM := Lib.hid hM
      clear hs hx hf hM
      go_wp2_with fail
      refine (sum33_any (bs l[k]) _ (by omega)).mono ?_
      rintro e w1 ⟨rfl, rfl⟩
      go_wp2_with fail
      refine (sum_any (bs l[k]) _ (by omega)).mono ?_
      rintro e w1 ⟨rfl, hb1⟩
      go_wp2_with fail
      refine (seal_any (bs l[k]) _ (by omega)).mono ?_
      rintro e w2 ⟨rfl, hb2⟩
      go_wp2_with fail
      refine (sealed33_any (bs l[k]) _ (by omega)).mono ?_
      rintro e w3 ⟨rfl, hb3⟩
      go_wp2_with fail
      refine (sum33_any (bs (l.take k).flatten) _ (by omega)).mono ?_
      rintro e w4 ⟨rfl, rfl⟩
      rw [bs_toList, bs_toList]
      go_wp2_with fail
      refine (more_any _ (bs l[k]) _ z6 (by omega)).mono ?_
      rintro e w4 ⟨rfl, hb4⟩
      rw [bs_toList, HM.out]
      have z7 : (bs (l.take k).flatten ++ bs l[k]).size ≤ 20000 := by rw [ByteArray.size_append]; omega
      go_wp2_with fail
      refine (sum33_any _ _ (by omega)).mono ?_
      rintro e w5 ⟨rfl, rfl⟩
      go_wp2_with fail
      refine (cost_nat _ _ (by omega)).mono ?_
      rintro e w5 ⟨rfl, rfl⟩
      go_wp2_with fail
      refine (sealed33_any (bs l[k]) _ (by omega)).mono ?_
      rintro e w5 ⟨rfl, hb5⟩
      rw [bs_toList]
      have z8 : (bs (sealedN l[k])).size ≤ 20000 := by rw [bs_size, sealedN_length]; omega
      go_wp2_with fail
      refine (open_any (bs (sealedN l[k])) _ (by omega)).mono ?_
      rintro e w6 ⟨rfl, hb6⟩
      rw [bs_toList, openV_sealed]
      go_wp2_with fail
      refine (framed33_any (bs l[k]) _ (by omega)).mono ?_
      rintro e w7 ⟨rfl, hb7⟩
      rw [bs_toList]
      go_wp2_with fail
      have h1 := hb.trans (hb1.mono hb.size)
      have h2 := h1.trans (hb2.mono h1.size)
      have h3 := h2.trans (hb3.mono h2.size)
      have h4 := h3.trans (hb4.mono h3.size)
      have h5 := h4.trans (hb5.mono h4.size)
      have h6 := h5.trans (hb6.mono h5.size)
      have h7 := h6.trans (hb7.mono h6.size)
      go_roundw
      case rel => exact ⟨k + 1, by omega, by go_num, by rw [HS.out, ← bs_append], by rw [HF.out, ← bs_append], h7⟩
      case measure => simp [intOf]; omega
    · obtain rfl : k = l.length := by omega
      rw [List.take_length]
      have hrw := hr.below (hb.mono hB)
      have HRW := Lib.hid hrw
      have z1 : (bs (putN l)).size = costN l := by rw [bs_size, putN_length]
      have z2 : (bs more).size ≤ 100 := by rw [bs_size]; exact hm
      have z3 : 0 ≤ (cut : Int) % ((costN l : Int) + 1) := Int.emod_nonneg _ (by omega)
      have z4 : (cut : Int) % ((costN l : Int) + 1) ≤ (costN l : Int) := by have := Int.emod_lt_of_pos (cut : Int) (b := (costN l : Int) + 1) (by omega); omega
      clear hrw hr
      go_wp2_with fail
      refine (put_any A c l _ (Nat.le_trans hB hb.size) HRW.out (by omega)).mono ?_
      rintro e w1 ⟨rfl, hb1⟩
      go_wp2_with fail
      have hblk := Blk.new w1 9 #[.string (bs (putN l) ++ bs more), .string ((bs (putN l)).extract 0 (cut % (costN l + 1))), .string (bs more)]
      have hbe := hb.trans (hb1.mono hb.size)
      have hbe2 := hbe.alloc hbe.size (.cells #[.string (bs (putN l) ++ bs more), .string ((bs (putN l)).extract 0 (cut % (costN l + 1))), .string (bs more)] 9)
      have HBE := Lib.hid hbe2
      have HBK := Lib.hid hblk
      obtain ⟨g, hg⟩ : ∃ g, g = w1.heap.size := ⟨_, rfl⟩
      have hgw : w.heap.size ≤ g := by rw [hg]; exact hbe.size
      have hsz3 : ∀ k, k < 3 → ∃ T : ByteArray, (#[Value.string (bs (putN l) ++ bs more), .string ((bs (putN l)).extract 0 (cut % (costN l + 1))), .string (bs more)])[k]? = some (.string T) ∧ T.size ≤ 20000 := by
        intro k hk
        have e1 : (bs (putN l) ++ bs more).size ≤ 20000 := by rw [ByteArray.size_append]; omega
        have e2 : ((bs (putN l)).extract 0 (cut % (costN l + 1))).size ≤ 20000 := by simp; omega
        match k, hk with
        | 0, _ => exact ⟨_, rfl, e1⟩
        | 1, _ => exact ⟨_, rfl, e2⟩
        | 2, _ => exact ⟨_, rfl, by omega⟩
      generalize #[Value.string (bs (putN l) ++ bs more), .string ((bs (putN l)).extract 0 (cut % (costN l + 1))), .string (bs more)] = arr at *
      rw [← hg] at HBK ⊢
      clear hb1 hbe hbe2 hblk hb hg
      have H3 := Lib.hid hsz3
      clear hsz3
      go_loopw [121] (fun i w' => ∃ k : Nat, k ≤ 3 ∧ i = .int .i64 k ∧ Blk w' g 9 arr ∧ Below w.heap.size w w' ∧ g < w'.heap.size) (fun i _ => 3 - (intOf i).toNat)
      case atStart => exact ⟨0, by omega, rfl, HBK.out, HBE.out, HBK.out.lt⟩
      case round =>
        obtain ⟨k, hk, rfl, hblk, hb0, hgl⟩ := hrel
        by_cases hlt : k < 3
        · obtain ⟨T, hT, hTs⟩ := H3.out k hlt
          have hc := hblk.cell k
          rw [hT] at hc
          have HB := Lib.hid hblk
          have HB0 := Lib.hid hb0
          clear hT hblk
          by_cases hpos : 0 < T.size
          · have hj0 : 0 ≤ (turn : Int) % (T.size : Int) := Int.emod_nonneg _ (by omega)
            have hj1 : (turn : Int) % (T.size : Int) < (T.size : Int) := Int.emod_lt_of_pos _ (by omega)
            have hjn : turn % T.size < T.size := Nat.mod_lt _ hpos
            go_wp2_with (refine wpList_bytes_of rfl 9 29 5 (.tmp 129) rfl wr.heap.size T rfl Try.underlying9 Try.underlying29 Try.underlying5 ?c1 ?c2 ?_)
            case c1 => unfold maxLen; omega
            case c2 => exact Nat.le_refl _
            intro v3 w3 hown3 hb3 hv3
            obtain ⟨n3, hn3⟩ : ∃ n3, T.size = n3 + 1 := ⟨T.size - 1, by omega⟩
            rw [hn3] at hown3
            obtain ⟨g3, cap3, rfl, _, _⟩ := hown3.succ
            rw [← hn3] at hown3 ⊢
            rw [strCells_eq] at hown3
            have hcell3 := hown3.cells (g := g3) rfl (turn % T.size) (.int .u8 (T[turn % T.size].toNat : Int)) (by simp [byteCells, hjn]; rfl)
            rw [add_zero_block] at hcell3
            have hfz3 := hown3.frozen (turn % T.size) hjn
            obtain ⟨b, hbv⟩ := bytes_set T.data.toList (turn % T.size) (bits .xor .u8 (T[turn % T.size].toNat : Int) (bits .or .u8 ((turn : Int) / 256) 1)) (wf_bits _ _ _ _)
            have hset := hown3.set_ (turn % T.size) (.int .u8 (bits .xor .u8 (T[turn % T.size].toNat : Int) (bits .or .u8 ((turn : Int) / 256) 1)))
            rw [hbv] at hset
            obtain ⟨A9, c9, he9, hr9⟩ := hset.reads
            injection he9 with e1 e2 e3
            subst e1
            have HR9 := Lib.hid hr9
            have hb9 : Below wr.heap.size wr (w3.setCell ⟨g3, turn % T.size, none⟩ (.int .u8 (bits .xor .u8 (T[turn % T.size].toNat : Int) (bits .or .u8 ((turn : Int) / 256) 1)))) := hb3.setCell (by assumption) _
            have HB9 := Lib.hid hb9
            clear hown3 hb3 hn3 hv3 hset hr9 hb9 hbv
            have hq : (bs (T.data.toList.set (turn % T.size) b)).size ≤ 20000 := by rw [bs_size]; simp; exact hTs
            go_wp2_with (refine wpList_string_of rfl 29 9 5 (.tmp 144) rfl _ (some ⟨g3, 0, none⟩) T.size cap3 (T.data.toList.set (turn % T.size) b) rfl HR9.out Try.underlying29 Try.underlying5 Try.underlying9 ?_)
            change (ByteArray.mk (T.data.toList.set (turn % T.size) b).toArray).size ≤ 20000 at hq
            generalize ByteArray.mk (T.data.toList.set (turn % T.size) b).toArray = U at *
            refine (scans33_any U _ (by omega)).mono ?_
            rintro e v11 ⟨A11, c11, rfl, hr11, hb11⟩
            have hd11 := HB9.out.trans (hb11.mono HB9.out.size)
            have HR11 := Lib.hid hr11
            have HB11 := Lib.hid hd11
            clear hr11 hd11
            go_wp2_with fail
            refine (scan_any U _ (by omega)).mono ?_
            rintro e v12 ⟨A12, c12, rfl, hr12, hb12⟩
            have hd12 := HB11.out.trans (hb12.mono HB11.out.size)
            have HQ11 := Lib.hid (HR11.out.below hb12)
            have HR12 := Lib.hid hr12
            have HB12 := Lib.hid hd12
            clear hr12 hd12
            go_wp2_with fail
            refine (open_any U _ (by omega)).mono ?_
            rintro e v13 ⟨rfl, hb13⟩
            have hd13 := HB12.out.trans (hb13.mono HB12.out.size)
            have HB13 := Lib.hid hd13
            clear hd13
            unfold openV
            generalize (if openN U.data.toList = true then bs (U.data.toList.take (U.data.toList.length - 8)) else bs []) = O1
            go_wp2_with fail
            refine (same_str A12 A11 c12 c11 (scanN U.data.toList) _ (by have := scan_frames_le U.data.toList; have := costN_ge (scanN U.data.toList); have : U.data.toList.length = U.size := (by simp); omega) hb13.size (Nat.le_trans hb12.size hb13.size) (HR12.out.below hb13) (HQ11.out.below (hb13.mono hb12.size))).mono ?_
            rintro e v14 ⟨rfl, hb14⟩
            have hd14 := HB13.out.trans (hb14.mono HB13.out.size)
            have HB14 := Lib.hid hd14
            clear hd14
            go_wp2_with fail
            refine (opens33_any U _ (by omega)).mono ?_
            rintro e v15 ⟨rfl, hb15⟩
            have hd15 := HB14.out.trans (hb15.mono HB14.out.size)
            have HB15 := Lib.hid hd15
            clear hd15
            go_wp2_with fail
            refine (scans33_any T _ (by omega)).mono ?_
            rintro e v21 ⟨A21, c21, rfl, hr21, hb21⟩
            have hd21 := HB15.out.trans (hb21.mono HB15.out.size)
            have HR21 := Lib.hid hr21
            have HB21 := Lib.hid hd21
            clear hr21 hd21
            go_wp2_with fail
            refine (scan_any T _ (by omega)).mono ?_
            rintro e v22 ⟨A22, c22, rfl, hr22, hb22⟩
            have hd22 := HB21.out.trans (hb22.mono HB21.out.size)
            have HQ21 := Lib.hid (HR21.out.below hb22)
            have HR22 := Lib.hid hr22
            have HB22 := Lib.hid hd22
            clear hr22 hd22
            go_wp2_with fail
            refine (open_any T _ (by omega)).mono ?_
            rintro e v23 ⟨rfl, hb23⟩
            have hd23 := HB22.out.trans (hb23.mono HB22.out.size)
            have HB23 := Lib.hid hd23
            clear hd23
            unfold openV
            generalize (if openN T.data.toList = true then bs (T.data.toList.take (T.data.toList.length - 8)) else bs []) = O2
            go_wp2_with fail
            refine (same_str A22 A21 c22 c21 (scanN T.data.toList) _ (by have := scan_frames_le T.data.toList; have := costN_ge (scanN T.data.toList); have : T.data.toList.length = T.size := (by simp); omega) hb23.size (Nat.le_trans hb22.size hb23.size) (HR22.out.below hb23) (HQ21.out.below (hb23.mono hb22.size))).mono ?_
            rintro e v24 ⟨rfl, hb24⟩
            have hd24 := HB23.out.trans (hb24.mono HB23.out.size)
            have HB24 := Lib.hid hd24
            clear hd24
            go_wp2_with fail
            refine (opens33_any T _ (by omega)).mono ?_
            rintro e v25 ⟨rfl, hb25⟩
            have hd25 := HB24.out.trans (hb25.mono HB24.out.size)
            have HB25 := Lib.hid hd25
            clear hd25
            go_wp2_with fail
            go_roundw
            case rel => exact ⟨k + 1, by omega, by go_num, HB.out.below HB25.out hgl, HB0.out.trans (HB25.out.mono HB0.out.size), by have := HB25.out.size; omega⟩
            case measure => simp [intOf]; omega
          · skip
            go_wp2_with fail
            refine (scans33_any T _ (by omega)).mono ?_
            rintro e v21 ⟨A21, c21, rfl, hr21, hb21⟩
            have hd21 := (Below.refl wr.heap.size wr).trans (hb21.mono (Below.refl wr.heap.size wr).size)
            have HR21 := Lib.hid hr21
            have HB21 := Lib.hid hd21
            clear hr21 hd21
            go_wp2_with fail
            refine (scan_any T _ (by omega)).mono ?_
            rintro e v22 ⟨A22, c22, rfl, hr22, hb22⟩
            have hd22 := HB21.out.trans (hb22.mono HB21.out.size)
            have HQ21 := Lib.hid (HR21.out.below hb22)
            have HR22 := Lib.hid hr22
            have HB22 := Lib.hid hd22
            clear hr22 hd22
            go_wp2_with fail
            refine (open_any T _ (by omega)).mono ?_
            rintro e v23 ⟨rfl, hb23⟩
            have hd23 := HB22.out.trans (hb23.mono HB22.out.size)
            have HB23 := Lib.hid hd23
            clear hd23
            unfold openV
            generalize (if openN T.data.toList = true then bs (T.data.toList.take (T.data.toList.length - 8)) else bs []) = O2
            go_wp2_with fail
            refine (same_str A22 A21 c22 c21 (scanN T.data.toList) _ (by have := scan_frames_le T.data.toList; have := costN_ge (scanN T.data.toList); have : T.data.toList.length = T.size := (by simp); omega) hb23.size (Nat.le_trans hb22.size hb23.size) (HR22.out.below hb23) (HQ21.out.below (hb23.mono hb22.size))).mono ?_
            rintro e v24 ⟨rfl, hb24⟩
            have hd24 := HB23.out.trans (hb24.mono HB23.out.size)
            have HB24 := Lib.hid hd24
            clear hd24
            go_wp2_with fail
            refine (opens33_any T _ (by omega)).mono ?_
            rintro e v25 ⟨rfl, hb25⟩
            have hd25 := HB24.out.trans (hb25.mono HB24.out.size)
            have HB25 := Lib.hid hd25
            clear hd25
            go_wp2_with fail
            go_roundw
            case rel => exact ⟨k + 1, by omega, by go_num, HB.out.below HB25.out hgl, HB0.out.trans (HB25.out.mono HB0.out.size), by have := HB25.out.size; omega⟩
            case measure => simp [intOf]; omega
        · obtain rfl : k = 3 := by omega
          have HB0 := Lib.hid hb0
          clear hblk
          go_wp2_with fail
          refine (cost_any (-1) _ (by omega)).mono ?_
          rintro e w9 ⟨rfl, rfl⟩
          rw [if_pos (by omega)]
          go_wp2_with fail
          go_ret
          exact ⟨rfl, HB0.out⟩
end Go.Proofs.Ytfnmpdohpbcegaa
