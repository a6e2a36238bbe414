/- reads33 (printed by gen/reads.py). -/
import Derived.Test.YtfnmpdohpbcegaaReadsPure
namespace Go.Proofs.Ytfnmpdohpbcegaa
open Go Go.RowKit Go.ChangeShapes

theorem bytes_at {l : List UInt8} {k : Nat} {u : Value} (h : (byteCells l)[k]? = some u) : ∃ hk : k < l.length, u = .int .u8 (l[k].toNat : Int) := by
  unfold byteCells at h
  rw [List.getElem?_map] at h
  by_cases hk : k < l.length
  · rw [List.getElem?_eq_getElem hk] at h
    exact ⟨hk, by simpa using h.symm⟩
  · rw [List.getElem?_eq_none (by omega)] at h
    simp at h
theorem ext_from (l : List UInt8) (j : Nat) : (bs l).extract j l.length = bs (l.drop j) := ext_drop l j
theorem ext_mid2 (l : List UInt8) (a n : Nat) : (bs l).extract a (a + n) = bs ((l.drop a).take n) := by
  apply ByteArray.ext
  apply Array.toList_inj.1
  simp only [bs, ByteArray.data_extract, Array.toList_extract, List.extract_eq_take_drop]
  congr 1
  omega
theorem over_eq (l : List UInt8) (j : Nat) (h : j ≤ l.length) : (l.drop j).isEmpty = ((j : Int) == (l.length : Int)) := by
  by_cases hj : j = l.length
  · subst hj; simp
  · have h1 : (l.drop j).isEmpty = false := by
      rw [List.isEmpty_eq_false_iff]
      intro h2
      have := congrArg List.length h2
      simp at this
      omega
    rw [h1]
    exact (beq_eq_false_iff_ne.2 (by omega)).symm

set_option maxRecDepth 100000 in
set_option maxHeartbeats 8000000 in
theorem reads_try {B : Nat} (l : List UInt8) (A : Option Addr) (c : Nat) (ks : List UInt8) (most : Nat) (w : World) (hB : B ≤ w.heap.size) (hr : Reads w B 1 A ks.length (byteCells ks)) (hl : l.length ≤ 100000) (hks : ks.length ≤ 100000) (hm : most < 9223372036854775808) :
    Calls Try.prog 16 #[.string (bs l), .slice A ks.length c, .int .i64 (most : Int)] w fun e w' => e = .returned (.tuple #[.int .i64 ((runK most ks true l : Nat) : Int), .bool true]) ∧ Below w.heap.size w w' := by
  have hs := bs_size l
  go_enter Try.func16, Try.ntmps16
  go_wp2_with fail
  refine (open_reader l w).mono ?_
  rintro e w1 ⟨rfl, hR1, hb1⟩
  obtain ⟨g, hg⟩ : ∃ g, g = w.heap.size := ⟨_, rfl⟩
  rw [← hg] at hR1 ⊢
  have hgw : w.heap.size ≤ g := Nat.le_of_eq hg.symm
  have HR1 := Lib.hid hR1
  have HB1 := Lib.hid hb1
  clear hR1 hb1 hg
  go_wp2_with fail
  go_loopw [9, 10, 11, 22] (fun a f t i w' => ∃ (k at_ told : Nat) (fine : Bool), k ≤ ks.length ∧ at_ ≤ l.length ∧ told ≤ k ∧ a = .int .i64 (at_ : Int) ∧ f = .bool fine ∧ t = .int .i64 (told : Int) ∧ i = .int .i64 (k : Int) ∧
      told + runK most (ks.drop k) fine (if fine = true then l.drop at_ else []) = runK most ks true l ∧ Rdr w' g (if fine = true then l.drop at_ else []) fine ∧ Below w.heap.size w w') (fun _ _ _ i _ => ks.length - (intOf i).toNat)
  case atStart => exact ⟨0, 0, 0, true, by omega, by omega, by omega, rfl, rfl, rfl, rfl, by simp, by simpa using HR1.out, HB1.out⟩
  case round =>
    obtain ⟨k, at_, told, fine, hk, hat, htold, rfl, rfl, rfl, rfl, hrun, hR, hb⟩ := hrel
    by_cases hlt : k < ks.length
    · obtain ⟨ad, u, rfl, _, hx, hc⟩ := (hr.below (hb.mono hB)).at_ hlt
      obtain ⟨_, rfl⟩ := bytes_at hx
      rw [List.drop_eq_getElem_cons hlt] at hrun
      have hkl := ks[k].toNat_lt
      generalize ks[k] = y at *
      obtain ⟨kk, hkk⟩ : ∃ kk, y.toNat % 4 = kk := ⟨_, rfl⟩
      have hkz : ((y.toNat : Int) % 4) = (kk : Int) := by omega
      have hkk4 : kk < 4 := by omega
      simp only [runK, hkk] at hrun
      have HRUN := Lib.hid hrun
      clear hx hrun
      cases fine with
      | false =>
        simp only [Bool.false_eq_true, if_false] at hR
        have HR := Lib.hid hR
        have HB := Lib.hid hb
        have hk4 : kk = 0 ∨ kk = 1 ∨ kk = 2 ∨ kk = 3 := by omega
        clear hR hb
        rcases hk4 with rfl | rfl | rfl | rfl
        · skip
          have hS : numS false [] = (false, [], 0) := rfl
          have hstep : stepK 0 most false [] = (false, []) := by unfold stepK; rw [if_neg (by decide), if_neg (by decide), hS]
          have hrun := HRUN.out
          simp only [Bool.false_eq_true, if_false] at hrun
          rw [hstep] at hrun
          simp only [Bool.false_eq_true, if_false, Nat.zero_add] at hrun
          have HRUN2 := Lib.hid hrun
          have HS := Lib.hid hS
          have hemp : (bs ([] : List UInt8)).toList = [] := by rw [Lib.toList_data]; rfl
          clear hrun hstep hS HRUN
          go_wp2_with fail
          have hS := HS.out
          refine (num_reader _ HR.out (by simp)).mono ?_
          rw [hS]
          rintro e w2 ⟨rfl, hR2, hg2⟩
          simp only at hR2 ⊢
          have hB2 := below_gb HB.out HB.out.size hgw hg2
          have HR2 := Lib.hid hR2
          have HB2 := Lib.hid hB2
          clear hR2 hB2 hg2
          go_wp2_with fail
          refine (fine_reader _ HR2.out).mono ?_
          rintro e w3 ⟨rfl, rfl⟩
          go_wp2_with fail
          refine (over_reader _ HR2.out).mono ?_
          rintro e w3 ⟨rfl, rfl⟩
          go_wp2_with fail
          go_roundw
          case rel => exact ⟨k + 1, at_, told, false, by omega, by omega, by omega, rfl, rfl, rfl, by go_num, HRUN2.out, HR2.out, HB2.out⟩
          case measure => simp [intOf]; omega
        · skip
          have hS : numS false [] = (false, [], 0) := rfl
          have hstep : stepK 1 most false [] = (false, []) := by unfold stepK; rw [if_neg (by decide), if_neg (by decide), hS]
          have hrun := HRUN.out
          simp only [Bool.false_eq_true, if_false] at hrun
          rw [hstep] at hrun
          simp only [Bool.false_eq_true, if_false, Nat.zero_add] at hrun
          have HRUN2 := Lib.hid hrun
          have HS := Lib.hid hS
          have hemp : (bs ([] : List UInt8)).toList = [] := by rw [Lib.toList_data]; rfl
          clear hrun hstep hS HRUN
          go_wp2_with fail
          have hS := HS.out
          refine (int_reader _ HR.out (by simp)).mono ?_
          rw [hS]
          rintro e w2 ⟨rfl, hR2, hg2⟩
          simp only at hR2 ⊢
          have hB2 := below_gb HB.out HB.out.size hgw hg2
          have HR2 := Lib.hid hR2
          have HB2 := Lib.hid hB2
          clear hR2 hB2 hg2
          go_wp2_with fail
          refine (signed_any 0 _ (by decide)).mono ?_
          rintro e w3 ⟨rfl, rfl⟩
          go_wp2_with fail
          refine (fine_reader _ HR2.out).mono ?_
          rintro e w3 ⟨rfl, rfl⟩
          go_wp2_with fail
          refine (over_reader _ HR2.out).mono ?_
          rintro e w3 ⟨rfl, rfl⟩
          go_wp2_with fail
          go_roundw
          case rel => exact ⟨k + 1, at_, told, false, by omega, by omega, by omega, rfl, rfl, rfl, by go_num, HRUN2.out, HR2.out, HB2.out⟩
          case measure => simp [intOf]; omega
        · skip
          have hS : textS false [] most = (false, [], []) := rfl
          have hstep : stepK 2 most false [] = (false, []) := by unfold stepK; rw [if_pos rfl, hS]
          have hrun := HRUN.out
          simp only [Bool.false_eq_true, if_false] at hrun
          rw [hstep] at hrun
          simp only [Bool.false_eq_true, if_false, Nat.zero_add] at hrun
          have HRUN2 := Lib.hid hrun
          have HS := Lib.hid hS
          have hemp : (bs ([] : List UInt8)).toList = [] := by rw [Lib.toList_data]; rfl
          clear hrun hstep hS HRUN
          go_wp2_with fail
          have hS := HS.out
          refine (text_reader most _ HR.out (by simp) hm).mono ?_
          rw [hS]
          rintro e w2 ⟨rfl, hR2, hg2⟩
          simp only at hR2 ⊢
          have hB2 := below_gb HB.out HB.out.size hgw hg2
          have HR2 := Lib.hid hR2
          have HB2 := Lib.hid hB2
          clear hR2 hB2 hg2
          go_wp2_with fail
          refine (fine_reader _ HR2.out).mono ?_
          rintro e w3 ⟨rfl, rfl⟩
          go_wp2_with fail
          refine (over_reader _ HR2.out).mono ?_
          rintro e w3 ⟨rfl, rfl⟩
          go_wp2_with fail
          go_roundw
          case rel => exact ⟨k + 1, at_, told, false, by omega, by omega, by omega, rfl, rfl, rfl, by go_num, HRUN2.out, HR2.out, HB2.out⟩
          case measure => simp [intOf]; omega
        · skip
          have hS : flagS false [] = (false, [], false) := rfl
          have hstep : stepK 3 most false [] = (false, []) := by unfold stepK; rw [if_neg (by decide), if_pos rfl, hS]
          have hrun := HRUN.out
          simp only [Bool.false_eq_true, if_false] at hrun
          rw [hstep] at hrun
          simp only [Bool.false_eq_true, if_false, Nat.zero_add] at hrun
          have HRUN2 := Lib.hid hrun
          have HS := Lib.hid hS
          have hemp : (bs ([] : List UInt8)).toList = [] := by rw [Lib.toList_data]; rfl
          clear hrun hstep hS HRUN
          go_wp2_with fail
          have hS := HS.out
          refine (flag_reader _ HR.out (by simp)).mono ?_
          rw [hS]
          rintro e w2 ⟨rfl, hR2, hg2⟩
          simp only at hR2 ⊢
          have hB2 := below_gb HB.out HB.out.size hgw hg2
          have HR2 := Lib.hid hR2
          have HB2 := Lib.hid hB2
          clear hR2 hB2 hg2
          go_wp2_with fail
          refine (fine_reader _ HR2.out).mono ?_
          rintro e w3 ⟨rfl, rfl⟩
          go_wp2_with fail
          refine (over_reader _ HR2.out).mono ?_
          rintro e w3 ⟨rfl, rfl⟩
          go_wp2_with fail
          go_roundw
          case rel => exact ⟨k + 1, at_, told, false, by omega, by omega, by omega, rfl, rfl, rfl, by go_num, HRUN2.out, HR2.out, HB2.out⟩
          case measure => simp [intOf]; omega
      | true =>
        simp only [if_true] at hR
        have hrun := HRUN.out
        simp only [if_true] at hrun
        have hlen : (l.drop at_).length = l.length - at_ := by simp
        have hLl : (l.drop at_).length ≤ 9223372036854775000 := by omega
        obtain ⟨n, hn⟩ : ∃ n, (begN (l.drop at_) 0 0).1 = n := ⟨_, rfl⟩
        obtain ⟨sz, hsz⟩ : ∃ sz, (begN (l.drop at_) 0 0).2 = sz := ⟨_, rfl⟩
        have hbeg : Calls Try.prog 58 #[.string ((bs l).extract at_ l.length)] wr fun e w' => e = .returned (.tuple #[.int .u64 (n : Int), .int .i64 (sz : Int)]) ∧ wr = w' := by rw [ext_drop, ← hn, ← hsz]; exact begins_try _ _ hLl
        have hnum : numS true (l.drop at_) = if sz = 0 then (false, [], 0) else (true, (l.drop at_).drop sz, n) := by unfold numS; rw [if_pos rfl, hn, hsz]
        have hle := begN_le (l.drop at_) 0 0
        have hn64 := begN_lt (l.drop at_) 0 0 (by simp)
        have hmany := begN_many (l.drop at_) 0 0 (by simp)
        have hzero := begN_zero (l.drop at_) 0 0
        rw [hn] at hn64 hmany hzero
        rw [hsz] at hle hmany hzero
        clear hn hsz
        have HRUN1 := Lib.hid hrun
        have HBEG := Lib.hid hbeg
        have HNUM := Lib.hid hnum
        have HR := Lib.hid hR
        have HB := Lib.hid hb
        clear hrun hbeg hnum hR hb HRUN
        have hk4 : kk = 0 ∨ kk = 1 ∨ kk = 2 ∨ kk = 3 := by omega
        by_cases h0 : sz = 0
        · subst h0
          obtain rfl := hzero rfl
          have hnum := HNUM.out
          rw [if_pos rfl] at hnum
          have HN0 := Lib.hid hnum
          clear hnum HNUM hmany hle
          rcases hk4 with rfl | rfl | rfl | rfl
          · skip
            have hS : numS true (l.drop at_) = (false, [], 0) := HN0.out
            have hstep : stepK 0 most true (l.drop at_) = (false, []) := by unfold stepK; rw [if_neg (by decide), if_neg (by decide), hS]
            have hrun := HRUN1.out
            rw [hstep] at hrun
            simp only [Bool.false_eq_true, if_false, Nat.zero_add] at hrun
            have HRUN2 := Lib.hid hrun
            have HS := Lib.hid hS
            have hemp : (bs ([] : List UInt8)).toList = [] := by rw [Lib.toList_data]; rfl
            clear hrun hstep hS HRUN1
            go_wp2_with fail
            refine HBEG.out.mono ?_
            rintro e w4 ⟨rfl, rfl⟩
            go_wp2_with fail
            have hS := HS.out
            refine (num_reader _ HR.out hLl).mono ?_
            rw [hS]
            rintro e w2 ⟨rfl, hR2, hg2⟩
            simp only at hR2 ⊢
            have hB2 := below_gb HB.out HB.out.size hgw hg2
            have HR2 := Lib.hid hR2
            have HB2 := Lib.hid hB2
            clear hR2 hB2 hg2
            go_wp2_with fail
            refine (fine_reader _ HR2.out).mono ?_
            rintro e w3 ⟨rfl, rfl⟩
            go_wp2_with fail
            refine (over_reader _ HR2.out).mono ?_
            rintro e w3 ⟨rfl, rfl⟩
            go_wp2_with fail
            go_roundw
            case rel => exact ⟨k + 1, at_, told, false, by omega, by omega, by omega, by go_num, rfl, by go_num, by go_num, by first | exact HRUN2.out | (have := HRUN2.out; simp only [if_true]; omega), HR2.out, HB2.out⟩
            case measure => simp [intOf]; omega
          · skip
            have hS : numS true (l.drop at_) = (false, [], 0) := HN0.out
            have hstep : stepK 1 most true (l.drop at_) = (false, []) := by unfold stepK; rw [if_neg (by decide), if_neg (by decide), hS]
            have hrun := HRUN1.out
            rw [hstep] at hrun
            simp only [Bool.false_eq_true, if_false, Nat.zero_add] at hrun
            have HRUN2 := Lib.hid hrun
            have HS := Lib.hid hS
            have hemp : (bs ([] : List UInt8)).toList = [] := by rw [Lib.toList_data]; rfl
            clear hrun hstep hS HRUN1
            go_wp2_with fail
            refine HBEG.out.mono ?_
            rintro e w4 ⟨rfl, rfl⟩
            go_wp2_with fail
            have hS := HS.out
            refine (int_reader _ HR.out hLl).mono ?_
            rw [hS]
            rintro e w2 ⟨rfl, hR2, hg2⟩
            simp only at hR2 ⊢
            have hB2 := below_gb HB.out HB.out.size hgw hg2
            have HR2 := Lib.hid hR2
            have HB2 := Lib.hid hB2
            clear hR2 hB2 hg2
            go_wp2_with fail
            refine (signed_any 0 _ (by decide)).mono ?_
            rintro e w3 ⟨rfl, rfl⟩
            go_wp2_with fail
            refine (fine_reader _ HR2.out).mono ?_
            rintro e w3 ⟨rfl, rfl⟩
            go_wp2_with fail
            refine (over_reader _ HR2.out).mono ?_
            rintro e w3 ⟨rfl, rfl⟩
            go_wp2_with fail
            go_roundw
            case rel => exact ⟨k + 1, at_, told, false, by omega, by omega, by omega, by go_num, rfl, by go_num, by go_num, by first | exact HRUN2.out | (have := HRUN2.out; simp only [if_true]; omega), HR2.out, HB2.out⟩
            case measure => simp [intOf]; omega
          · skip
            have hS : textS true (l.drop at_) most = (false, [], []) := by unfold textS; rw [HN0.out]; rfl
            have hstep : stepK 2 most true (l.drop at_) = (false, []) := by unfold stepK; rw [if_pos rfl, hS]
            have hrun := HRUN1.out
            rw [hstep] at hrun
            simp only [Bool.false_eq_true, if_false, Nat.zero_add] at hrun
            have HRUN2 := Lib.hid hrun
            have HS := Lib.hid hS
            have hemp : (bs ([] : List UInt8)).toList = [] := by rw [Lib.toList_data]; rfl
            clear hrun hstep hS HRUN1
            go_wp2_with fail
            refine HBEG.out.mono ?_
            rintro e w4 ⟨rfl, rfl⟩
            go_wp2_with fail
            have hS := HS.out
            refine (text_reader most _ HR.out hLl hm).mono ?_
            rw [hS]
            rintro e w2 ⟨rfl, hR2, hg2⟩
            simp only at hR2 ⊢
            have hB2 := below_gb HB.out HB.out.size hgw hg2
            have HR2 := Lib.hid hR2
            have HB2 := Lib.hid hB2
            clear hR2 hB2 hg2
            go_wp2_with fail
            refine (fine_reader _ HR2.out).mono ?_
            rintro e w3 ⟨rfl, rfl⟩
            go_wp2_with fail
            refine (over_reader _ HR2.out).mono ?_
            rintro e w3 ⟨rfl, rfl⟩
            go_wp2_with fail
            go_roundw
            case rel => exact ⟨k + 1, at_, told, false, by omega, by omega, by omega, by go_num, rfl, by go_num, by go_num, by first | exact HRUN2.out | (have := HRUN2.out; simp only [if_true]; omega), HR2.out, HB2.out⟩
            case measure => simp [intOf]; omega
          · skip
            have hS : flagS true (l.drop at_) = (false, [], false) := by unfold flagS; rw [HN0.out]; rfl
            have hstep : stepK 3 most true (l.drop at_) = (false, []) := by unfold stepK; rw [if_neg (by decide), if_pos rfl, hS]
            have hrun := HRUN1.out
            rw [hstep] at hrun
            simp only [Bool.false_eq_true, if_false, Nat.zero_add] at hrun
            have HRUN2 := Lib.hid hrun
            have HS := Lib.hid hS
            have hemp : (bs ([] : List UInt8)).toList = [] := by rw [Lib.toList_data]; rfl
            clear hrun hstep hS HRUN1
            go_wp2_with fail
            refine HBEG.out.mono ?_
            rintro e w4 ⟨rfl, rfl⟩
            go_wp2_with fail
            have hS := HS.out
            refine (flag_reader _ HR.out hLl).mono ?_
            rw [hS]
            rintro e w2 ⟨rfl, hR2, hg2⟩
            simp only at hR2 ⊢
            have hB2 := below_gb HB.out HB.out.size hgw hg2
            have HR2 := Lib.hid hR2
            have HB2 := Lib.hid hB2
            clear hR2 hB2 hg2
            go_wp2_with fail
            refine (fine_reader _ HR2.out).mono ?_
            rintro e w3 ⟨rfl, rfl⟩
            go_wp2_with fail
            refine (over_reader _ HR2.out).mono ?_
            rintro e w3 ⟨rfl, rfl⟩
            go_wp2_with fail
            go_roundw
            case rel => exact ⟨k + 1, at_, told, false, by omega, by omega, by omega, by go_num, rfl, by go_num, by go_num, by first | exact HRUN2.out | (have := HRUN2.out; simp only [if_true]; omega), HR2.out, HB2.out⟩
            case measure => simp [intOf]; omega
        · have hsz0 : 0 < sz := by omega
          have hnum := HNUM.out
          rw [if_neg h0, List.drop_drop] at hnum
          have HN1 := Lib.hid hnum
          have hat2 : at_ + sz ≤ l.length := by omega
          clear hnum HNUM hzero
          rcases hk4 with rfl | rfl | rfl | rfl
          · skip
            have hS : numS true (l.drop at_) = (true, l.drop (at_ + sz), n) := HN1.out
            have hstep : stepK 0 most true (l.drop at_) = (true, l.drop (at_ + sz)) := by unfold stepK; rw [if_neg (by decide), if_neg (by decide), hS]
            have hrun := HRUN1.out
            rw [hstep] at hrun
            simp only [if_true] at hrun
            have HRUN2 := Lib.hid hrun
            have HS := Lib.hid hS
            have hemp : (bs ([] : List UInt8)).toList = [] := by rw [Lib.toList_data]; rfl
            clear hrun hstep hS HRUN1
            have hov := over_eq l (at_ + sz) (by omega)
            go_wp2_with fail
            refine HBEG.out.mono ?_
            rintro e w4 ⟨rfl, rfl⟩
            go_wp2_with fail
            have hS := HS.out
            refine (num_reader _ HR.out hLl).mono ?_
            rw [hS]
            rintro e w2 ⟨rfl, hR2, hg2⟩
            simp only at hR2 ⊢
            have hB2 := below_gb HB.out HB.out.size hgw hg2
            have HR2 := Lib.hid hR2
            have HB2 := Lib.hid hB2
            clear hR2 hB2 hg2
            go_wp2_with fail
            refine (fine_reader _ HR2.out).mono ?_
            rintro e w3 ⟨rfl, rfl⟩
            go_wp2_with fail
            refine (over_reader _ HR2.out).mono ?_
            rintro e w3 ⟨rfl, rfl⟩
            go_wp2_with fail
            go_roundw
            case rel => exact ⟨k + 1, at_ + sz, told + 1, true, by omega, by omega, by omega, by go_num, rfl, by go_num, by go_num, by first | exact HRUN2.out | (have := HRUN2.out; simp only [if_true]; omega), HR2.out, HB2.out⟩
            case measure => simp [intOf]; omega
          · skip
            have hS : numS true (l.drop at_) = (true, l.drop (at_ + sz), n) := HN1.out
            have hstep : stepK 1 most true (l.drop at_) = (true, l.drop (at_ + sz)) := by unfold stepK; rw [if_neg (by decide), if_neg (by decide), hS]
            have hrun := HRUN1.out
            rw [hstep] at hrun
            simp only [if_true] at hrun
            have HRUN2 := Lib.hid hrun
            have HS := Lib.hid hS
            have hemp : (bs ([] : List UInt8)).toList = [] := by rw [Lib.toList_data]; rfl
            clear hrun hstep hS HRUN1
            have hov := over_eq l (at_ + sz) (by omega)
            go_wp2_with fail
            refine HBEG.out.mono ?_
            rintro e w4 ⟨rfl, rfl⟩
            go_wp2_with fail
            have hS := HS.out
            refine (int_reader _ HR.out hLl).mono ?_
            rw [hS]
            rintro e w2 ⟨rfl, hR2, hg2⟩
            simp only at hR2 ⊢
            have hB2 := below_gb HB.out HB.out.size hgw hg2
            have HR2 := Lib.hid hR2
            have HB2 := Lib.hid hB2
            clear hR2 hB2 hg2
            go_wp2_with fail
            refine (signed_any n _ hn64).mono ?_
            rintro e w3 ⟨rfl, rfl⟩
            go_wp2_with fail
            refine (fine_reader _ HR2.out).mono ?_
            rintro e w3 ⟨rfl, rfl⟩
            go_wp2_with fail
            refine (over_reader _ HR2.out).mono ?_
            rintro e w3 ⟨rfl, rfl⟩
            go_wp2_with fail
            go_roundw
            case rel => exact ⟨k + 1, at_ + sz, told + 1, true, by omega, by omega, by omega, by go_num, rfl, by go_num, by go_num, by first | exact HRUN2.out | (have := HRUN2.out; simp only [if_true]; omega), HR2.out, HB2.out⟩
            case measure => simp [intOf]; omega
          · skip
            by_cases hbad : (l.drop (at_ + sz)).length < n ∨ most < n
            · have hT : textS true (l.drop at_) most = (false, [], []) := by unfold textS; rw [HN1.out]; simp only [if_true]; rw [if_pos hbad]
              have hbad2 : (l.length : Int) - at_ - sz < n ∨ ((n : Int) ≤ (l.length : Int) - at_ - sz ∧ (most : Int) < n) := by simp at hbad; omega
              clear hbad
              rcases hbad2 with hb2 | ⟨hb2, hb3⟩
              · skip
                have hS : textS true (l.drop at_) most = (false, [], []) := hT
                have hstep : stepK 2 most true (l.drop at_) = (false, []) := by unfold stepK; rw [if_pos rfl, hS]
                have hrun := HRUN1.out
                rw [hstep] at hrun
                simp only [Bool.false_eq_true, if_false, Nat.zero_add] at hrun
                have HRUN2 := Lib.hid hrun
                have HS := Lib.hid hS
                have hemp : (bs ([] : List UInt8)).toList = [] := by rw [Lib.toList_data]; rfl
                clear hrun hstep hS HRUN1
                go_wp2_with fail
                refine HBEG.out.mono ?_
                rintro e w4 ⟨rfl, rfl⟩
                go_wp2_with fail
                have hS := HS.out
                refine (text_reader most _ HR.out hLl hm).mono ?_
                rw [hS]
                rintro e w2 ⟨rfl, hR2, hg2⟩
                simp only at hR2 ⊢
                have hB2 := below_gb HB.out HB.out.size hgw hg2
                have HR2 := Lib.hid hR2
                have HB2 := Lib.hid hB2
                clear hR2 hB2 hg2
                go_wp2_with fail
                refine (fine_reader _ HR2.out).mono ?_
                rintro e w3 ⟨rfl, rfl⟩
                go_wp2_with fail
                refine (over_reader _ HR2.out).mono ?_
                rintro e w3 ⟨rfl, rfl⟩
                go_wp2_with fail
                go_roundw
                case rel => exact ⟨k + 1, at_, told, false, by omega, by omega, by omega, by go_num, rfl, by go_num, by go_num, by first | exact HRUN2.out | (have := HRUN2.out; simp only [if_true]; omega), HR2.out, HB2.out⟩
                case measure => simp [intOf]; omega
              · skip
                have hS : textS true (l.drop at_) most = (false, [], []) := hT
                have hstep : stepK 2 most true (l.drop at_) = (false, []) := by unfold stepK; rw [if_pos rfl, hS]
                have hrun := HRUN1.out
                rw [hstep] at hrun
                simp only [Bool.false_eq_true, if_false, Nat.zero_add] at hrun
                have HRUN2 := Lib.hid hrun
                have HS := Lib.hid hS
                have hemp : (bs ([] : List UInt8)).toList = [] := by rw [Lib.toList_data]; rfl
                clear hrun hstep hS HRUN1
                go_wp2_with fail
                refine HBEG.out.mono ?_
                rintro e w4 ⟨rfl, rfl⟩
                go_wp2_with fail
                have hS := HS.out
                refine (text_reader most _ HR.out hLl hm).mono ?_
                rw [hS]
                rintro e w2 ⟨rfl, hR2, hg2⟩
                simp only at hR2 ⊢
                have hB2 := below_gb HB.out HB.out.size hgw hg2
                have HR2 := Lib.hid hR2
                have HB2 := Lib.hid hB2
                clear hR2 hB2 hg2
                go_wp2_with fail
                refine (fine_reader _ HR2.out).mono ?_
                rintro e w3 ⟨rfl, rfl⟩
                go_wp2_with fail
                refine (over_reader _ HR2.out).mono ?_
                rintro e w3 ⟨rfl, rfl⟩
                go_wp2_with fail
                go_roundw
                case rel => exact ⟨k + 1, at_, told, false, by omega, by omega, by omega, by go_num, rfl, by go_num, by go_num, by first | exact HRUN2.out | (have := HRUN2.out; simp only [if_true]; omega), HR2.out, HB2.out⟩
                case measure => simp [intOf]; omega
            · have hT : textS true (l.drop at_) most = (true, l.drop (at_ + (sz + n)), (l.drop (at_ + sz)).take n) := by unfold textS; rw [HN1.out]; simp only [if_true]; rw [if_neg hbad, List.drop_drop, Nat.add_assoc]
              have hb2 : n ≤ l.length - (at_ + sz) := by simp at hbad; omega
              have hb3 : n ≤ most := by omega
              have hext : (bs l).extract (at_ + sz) (at_ + sz + n) = bs ((l.drop (at_ + sz)).take n) := ext_mid2 l (at_ + sz) n
              clear hbad
              have hS : textS true (l.drop at_) most = (true, l.drop (at_ + (sz + n)), (l.drop (at_ + sz)).take n) := hT
              have hstep : stepK 2 most true (l.drop at_) = (true, l.drop (at_ + (sz + n))) := by unfold stepK; rw [if_pos rfl, hS]
              have hrun := HRUN1.out
              rw [hstep] at hrun
              simp only [if_true] at hrun
              have HRUN2 := Lib.hid hrun
              have HS := Lib.hid hS
              have hemp : (bs ([] : List UInt8)).toList = [] := by rw [Lib.toList_data]; rfl
              clear hrun hstep hS HRUN1
              have hov := over_eq l (at_ + (sz + n)) (by omega)
              go_wp2_with fail
              refine HBEG.out.mono ?_
              rintro e w4 ⟨rfl, rfl⟩
              go_wp2_with fail
              have hS := HS.out
              refine (text_reader most _ HR.out hLl hm).mono ?_
              rw [hS]
              rintro e w2 ⟨rfl, hR2, hg2⟩
              simp only at hR2 ⊢
              have hB2 := below_gb HB.out HB.out.size hgw hg2
              have HR2 := Lib.hid hR2
              have HB2 := Lib.hid hB2
              clear hR2 hB2 hg2
              go_wp2_with fail
              refine (fine_reader _ HR2.out).mono ?_
              rintro e w3 ⟨rfl, rfl⟩
              go_wp2_with fail
              refine (over_reader _ HR2.out).mono ?_
              rintro e w3 ⟨rfl, rfl⟩
              go_wp2_with fail
              go_roundw
              case rel => exact ⟨k + 1, at_ + (sz + n), told + 1, true, by omega, by omega, by omega, by go_num, rfl, by go_num, by go_num, by first | exact HRUN2.out | (have := HRUN2.out; simp only [if_true]; omega), HR2.out, HB2.out⟩
              case measure => simp [intOf]; omega
          · skip
            by_cases h1 : sz = 1
            · subst h1
              by_cases h2 : 1 < n
              · have hT : flagS true (l.drop at_) = (false, [], false) := by unfold flagS; rw [HN1.out]; simp only; rw [if_pos h2]
                have hS : flagS true (l.drop at_) = (false, [], false) := hT
                have hstep : stepK 3 most true (l.drop at_) = (false, []) := by unfold stepK; rw [if_neg (by decide), if_pos rfl, hS]
                have hrun := HRUN1.out
                rw [hstep] at hrun
                simp only [Bool.false_eq_true, if_false, Nat.zero_add] at hrun
                have HRUN2 := Lib.hid hrun
                have HS := Lib.hid hS
                have hemp : (bs ([] : List UInt8)).toList = [] := by rw [Lib.toList_data]; rfl
                clear hrun hstep hS HRUN1
                go_wp2_with fail
                refine HBEG.out.mono ?_
                rintro e w4 ⟨rfl, rfl⟩
                go_wp2_with fail
                have hS := HS.out
                refine (flag_reader _ HR.out hLl).mono ?_
                rw [hS]
                rintro e w2 ⟨rfl, hR2, hg2⟩
                simp only at hR2 ⊢
                have hB2 := below_gb HB.out HB.out.size hgw hg2
                have HR2 := Lib.hid hR2
                have HB2 := Lib.hid hB2
                clear hR2 hB2 hg2
                go_wp2_with fail
                refine (fine_reader _ HR2.out).mono ?_
                rintro e w3 ⟨rfl, rfl⟩
                go_wp2_with fail
                refine (over_reader _ HR2.out).mono ?_
                rintro e w3 ⟨rfl, rfl⟩
                go_wp2_with fail
                go_roundw
                case rel => exact ⟨k + 1, at_, told, false, by omega, by omega, by omega, by go_num, rfl, by go_num, by go_num, by first | exact HRUN2.out | (have := HRUN2.out; simp only [if_true]; omega), HR2.out, HB2.out⟩
                case measure => simp [intOf]; omega
              · have hT : flagS true (l.drop at_) = (true, l.drop (at_ + 1), decide (n = 1)) := by unfold flagS; rw [HN1.out]; simp only; rw [if_neg h2]
                by_cases h3 : n = 1
                · rw [decide_eq_true h3] at hT
                  subst h3
                  have hS : flagS true (l.drop at_) = (true, l.drop (at_ + 1), true) := hT
                  have hstep : stepK 3 most true (l.drop at_) = (true, l.drop (at_ + 1)) := by unfold stepK; rw [if_neg (by decide), if_pos rfl, hS]
                  have hrun := HRUN1.out
                  rw [hstep] at hrun
                  simp only [if_true] at hrun
                  have HRUN2 := Lib.hid hrun
                  have HS := Lib.hid hS
                  have hemp : (bs ([] : List UInt8)).toList = [] := by rw [Lib.toList_data]; rfl
                  clear hrun hstep hS HRUN1
                  have hov := over_eq l (at_ + 1) (by omega)
                  go_wp2_with fail
                  refine HBEG.out.mono ?_
                  rintro e w4 ⟨rfl, rfl⟩
                  go_wp2_with fail
                  have hS := HS.out
                  refine (flag_reader _ HR.out hLl).mono ?_
                  rw [hS]
                  rintro e w2 ⟨rfl, hR2, hg2⟩
                  simp only at hR2 ⊢
                  have hB2 := below_gb HB.out HB.out.size hgw hg2
                  have HR2 := Lib.hid hR2
                  have HB2 := Lib.hid hB2
                  clear hR2 hB2 hg2
                  go_wp2_with fail
                  refine (fine_reader _ HR2.out).mono ?_
                  rintro e w3 ⟨rfl, rfl⟩
                  go_wp2_with fail
                  refine (over_reader _ HR2.out).mono ?_
                  rintro e w3 ⟨rfl, rfl⟩
                  go_wp2_with fail
                  go_roundw
                  case rel => exact ⟨k + 1, at_ + 1, told + 1, true, by omega, by omega, by omega, by go_num, rfl, by go_num, by go_num, by first | exact HRUN2.out | (have := HRUN2.out; simp only [if_true]; omega), HR2.out, HB2.out⟩
                  case measure => simp [intOf]; omega
                · rw [decide_eq_false h3] at hT
                  obtain rfl : n = 0 := by omega
                  have hS : flagS true (l.drop at_) = (true, l.drop (at_ + 1), false) := hT
                  have hstep : stepK 3 most true (l.drop at_) = (true, l.drop (at_ + 1)) := by unfold stepK; rw [if_neg (by decide), if_pos rfl, hS]
                  have hrun := HRUN1.out
                  rw [hstep] at hrun
                  simp only [if_true] at hrun
                  have HRUN2 := Lib.hid hrun
                  have HS := Lib.hid hS
                  have hemp : (bs ([] : List UInt8)).toList = [] := by rw [Lib.toList_data]; rfl
                  clear hrun hstep hS HRUN1
                  have hov := over_eq l (at_ + 1) (by omega)
                  go_wp2_with fail
                  refine HBEG.out.mono ?_
                  rintro e w4 ⟨rfl, rfl⟩
                  go_wp2_with fail
                  have hS := HS.out
                  refine (flag_reader _ HR.out hLl).mono ?_
                  rw [hS]
                  rintro e w2 ⟨rfl, hR2, hg2⟩
                  simp only at hR2 ⊢
                  have hB2 := below_gb HB.out HB.out.size hgw hg2
                  have HR2 := Lib.hid hR2
                  have HB2 := Lib.hid hB2
                  clear hR2 hB2 hg2
                  go_wp2_with fail
                  refine (fine_reader _ HR2.out).mono ?_
                  rintro e w3 ⟨rfl, rfl⟩
                  go_wp2_with fail
                  refine (over_reader _ HR2.out).mono ?_
                  rintro e w3 ⟨rfl, rfl⟩
                  go_wp2_with fail
                  go_roundw
                  case rel => exact ⟨k + 1, at_ + 1, told + 1, true, by omega, by omega, by omega, by go_num, rfl, by go_num, by go_num, by first | exact HRUN2.out | (have := HRUN2.out; simp only [if_true]; omega), HR2.out, HB2.out⟩
                  case measure => simp [intOf]; omega
            · have h2 : 1 < n := by have := hmany (by omega); omega
              have hT : flagS true (l.drop at_) = (false, [], false) := by unfold flagS; rw [HN1.out]; simp only; rw [if_pos h2]
              have hS : flagS true (l.drop at_) = (false, [], false) := hT
              have hstep : stepK 3 most true (l.drop at_) = (false, []) := by unfold stepK; rw [if_neg (by decide), if_pos rfl, hS]
              have hrun := HRUN1.out
              rw [hstep] at hrun
              simp only [Bool.false_eq_true, if_false, Nat.zero_add] at hrun
              have HRUN2 := Lib.hid hrun
              have HS := Lib.hid hS
              have hemp : (bs ([] : List UInt8)).toList = [] := by rw [Lib.toList_data]; rfl
              clear hrun hstep hS HRUN1
              go_wp2_with fail
              refine HBEG.out.mono ?_
              rintro e w4 ⟨rfl, rfl⟩
              go_wp2_with fail
              have hS := HS.out
              refine (flag_reader _ HR.out hLl).mono ?_
              rw [hS]
              rintro e w2 ⟨rfl, hR2, hg2⟩
              simp only at hR2 ⊢
              have hB2 := below_gb HB.out HB.out.size hgw hg2
              have HR2 := Lib.hid hR2
              have HB2 := Lib.hid hB2
              clear hR2 hB2 hg2
              go_wp2_with fail
              refine (fine_reader _ HR2.out).mono ?_
              rintro e w3 ⟨rfl, rfl⟩
              go_wp2_with fail
              refine (over_reader _ HR2.out).mono ?_
              rintro e w3 ⟨rfl, rfl⟩
              go_wp2_with fail
              go_roundw
              case rel => exact ⟨k + 1, at_, told, false, by omega, by omega, by omega, by go_num, rfl, by go_num, by go_num, by first | exact HRUN2.out | (have := HRUN2.out; simp only [if_true]; omega), HR2.out, HB2.out⟩
              case measure => simp [intOf]; omega
    · obtain rfl : k = ks.length := by omega
      have hrun2 : told = runK most ks true l := by simpa [runK] using hrun
      have HR2 := Lib.hid hrun2
      clear hrun hrun2 hR
      go_wp2_with fail
      go_ret2
      rw [← HR2.out]
      exact ⟨rfl, hb⟩
end Go.Proofs.Ytfnmpdohpbcegaa
