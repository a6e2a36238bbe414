/- known33a answers true. -/
import Derived.Test.YtfnmpdohpbcegaaMapLit
namespace Go.Proofs.Ytfnmpdohpbcegaa
open Go Go.RowKit Go.ChangeShapes
open Go.Maps (Keyed)

/-- Between two rounds over the map A, or B. -/
def RangA (w0 : World) (b r : Nat) (w : World) : Prop := b < r ∧ w0.heap.size ≤ b ∧ Below w0.heap.size w0 w ∧ ∃ left cnt, w.ranges Try.prog 30 (plainElem (H := Unit) Try.prog 9) b r 4 mapA left cnt ∧ ∀ z, left z = true → Maps.has mapA z = true
def RangB (w0 : World) (b r : Nat) (w : World) : Prop := b < r ∧ w0.heap.size ≤ b ∧ Below w0.heap.size w0 w ∧ ∃ left cnt, w.ranges Try.prog 2 (plainElem (H := Unit) Try.prog 9) b r 4 mapB left cnt ∧ ∀ z, left z = true → Maps.has mapB z = true

theorem RangA.below {w0 w w' : World} {b r : Nat} (h : RangA w0 b r w) (hb : Below w.heap.size w w') : RangA w0 b r w' ∧ w'.rangeLeft b r = w.rangeLeft b r := by
  obtain ⟨h1, h2, h3, left, cnt, h4, h5⟩ := h
  have h6 := h4.kept (gb_below hb none) (by simp) (by simp)
  exact ⟨⟨h1, h2, h3.trans (hb.mono h3.size), left, cnt, h6, h5⟩, h6.left_eq.trans h4.left_eq.symm⟩
theorem RangB.below {w0 w w' : World} {b r : Nat} (h : RangB w0 b r w) (hb : Below w.heap.size w w') : RangB w0 b r w' ∧ w'.rangeLeft b r = w.rangeLeft b r := by
  obtain ⟨h1, h2, h3, left, cnt, h4, h5⟩ := h
  have h6 := h4.kept (gb_below hb none) (by simp) (by simp)
  exact ⟨⟨h1, h2, h3.trans (hb.mono h3.size), left, cnt, h6, h5⟩, h6.left_eq.trans h4.left_eq.symm⟩

set_option maxRecDepth 100000 in
set_option maxHeartbeats 2000000 in
theorem known33a_any (w : World) : Calls Try.prog 15 #[] w fun e w' => e = .returned (.bool true) ∧ Below w.heap.size w w' := by
  have hmm := @run_makeMap Try.prog
  have K30 : Keyed Try.prog 30 := Go.Maps.int_keyed Try.underlying30
  have K2 : Keyed Try.prog 2 := Go.Maps.int_keyed Try.underlying2
  have hs : ∀ (l : List UInt8) (hl : l.length ≤ 10), plainElem (H := Unit) Try.prog 9 (.string ⟨l.toArray⟩) = some (.lit (.string l), []) := fun l hl => by
    have := plainElem_string (H := Unit) Try.underlying9 (s := ⟨l.toArray⟩) (by show l.toArray.size ≤ maxLen; simp [maxLen]; omega)
    simpa using this
  have HS := Lib.hid hs
  clear hs
  go_enter Try.func15, Try.ntmps15
  go_wp2_with (refine wpList_insert_own (H := Unit) _ rfl _ _ _ 92 rfl 30 9 K30 Try.underlying92 (plainElem Try.prog 9) w.heap.size 0 (.map []) rfl (World.ownsMap_made w Try.prog 30 _) (by decide) _ _ (.int .u64 0) rfl rfl (Go.Maps.keyOf_int_mk Try.underlying30 (by decide)) (.lit (.string [0])) [] (HS.out [0] (by simp)) ?_)
  intro wa0 ho0 hg0
  have HOwa0 := Lib.hid ho0
  have HGwa0 := Lib.hid hg0
  clear ho0 hg0
  go_wp2_with (refine wpList_insert_own (H := Unit) _ rfl _ _ _ 92 rfl 30 9 K30 Try.underlying92 (plainElem Try.prog 9) w.heap.size 1 _ rfl HOwa0.out (by decide) _ _ (.int .u64 127) rfl rfl (Go.Maps.keyOf_int_mk Try.underlying30 (by decide)) (.lit (.string [127])) [] (HS.out [127] (by simp)) ?_)
  intro wa1 ho1 hg1
  have HOwa1 := Lib.hid ho1
  have HGwa1 := Lib.hid hg1
  clear ho1 hg1
  go_wp2_with (refine wpList_insert_own (H := Unit) _ rfl _ _ _ 92 rfl 30 9 K30 Try.underlying92 (plainElem Try.prog 9) w.heap.size 2 _ rfl HOwa1.out (by decide) _ _ (.int .u64 128) rfl rfl (Go.Maps.keyOf_int_mk Try.underlying30 (by decide)) (.lit (.string [128, 1])) [] (HS.out [128, 1] (by simp)) ?_)
  intro wa2 ho2 hg2
  have HOwa2 := Lib.hid ho2
  have HGwa2 := Lib.hid hg2
  clear ho2 hg2
  go_wp2_with (refine wpList_insert_own (H := Unit) _ rfl _ _ _ 92 rfl 30 9 K30 Try.underlying92 (plainElem Try.prog 9) w.heap.size 3 _ rfl HOwa2.out (by decide) _ _ (.int .u64 300) rfl rfl (Go.Maps.keyOf_int_mk Try.underlying30 (by decide)) (.lit (.string [172, 2])) [] (HS.out [172, 2] (by simp)) ?_)
  intro wa3 ho3 hg3
  have HOwa3 := Lib.hid ho3
  have HGwa3 := Lib.hid hg3
  clear ho3 hg3
  go_wp2_with (at_range; refine wpList_range_own (H := Unit) _ rfl _ 92 rfl 30 9 K30 Try.underlying92 (plainElem Try.prog 9) w.heap.size 4 _ rfl HOwa3.out ?_)
  intro wa5 hr5 hg5 hs5
  have hszA : w.heap.size < wa3.heap.size := HOwa3.out.lt
  have hb5 : Below w.heap.size w wa5 := below_gb (below_gb (below_gb (below_gb (below_gb ((Below.refl _ w).alloc (Nat.le_refl w.heap.size) _) (by first | (simp; done) | (have := Nat.le_refl w.heap.size; simp; omega)) (Nat.le_refl w.heap.size) HGwa0.out) (by have := HOwa0.out.lt; have := Nat.le_refl w.heap.size; omega) (Nat.le_refl w.heap.size) HGwa1.out) (by have := HOwa1.out.lt; have := Nat.le_refl w.heap.size; omega) (Nat.le_refl w.heap.size) HGwa2.out) (by have := HOwa2.out.lt; have := Nat.le_refl w.heap.size; omega) (Nat.le_refl w.heap.size) HGwa3.out) (by have := Nat.le_refl w.heap.size; omega) (Nat.le_refl w.heap.size) (hg5.but (some w.heap.size))
  have HRA : Hid (RangA w w.heap.size wa3.heap.size wa5) := ⟨hszA, Nat.le_refl w.heap.size, hb5, _, _, hr5, fun _ h => h⟩
  clear hr5 hg5 hs5 hb5
  go_wp2_with fail
  go_loopw [] (fun wx => RangA w w.heap.size wa3.heap.size wx) (fun wx => wx.rangeLeft w.heap.size wa3.heap.size)
  case atStart => exact HRA.out
  case round =>
    obtain ⟨_, _, hb, left, cnt, hrg, hleft⟩ := hrel
    have HBA := Lib.hid hb
    have HLA := Lib.hid hleft
    have HRGA := Lib.hid hrg
    clear hrg hleft hb
    go_wp2_with (at_next; refine wpList_next_ranges_is _ rfl _ rfl 30 9 .u64 K30 Try.underlying30 Try.underlying9 w.heap.size wa3.heap.size 4 _ _ _ rfl HRGA.out ?_ ?_)
    · intro _ _
      obtain ⟨wo, rfl⟩ : ∃ wo : World, wo = wr := ⟨_, rfl⟩
      go_wp2_with (refine wpList_insert_own (H := Unit) _ rfl _ _ _ 94 rfl 2 9 K2 Try.underlying94 (plainElem Try.prog 9) wo.heap.size 0 (.map []) rfl (World.ownsMap_made wo Try.prog 2 _) (by decide) _ _ (.int .i64 (-1)) rfl rfl (Go.Maps.keyOf_int_mk Try.underlying2 (by decide)) (.lit (.string [1])) [] (HS.out [1] (by simp)) ?_)
      intro wb0 ho0 hg0
      have HOwb0 := Lib.hid ho0
      have HGwb0 := Lib.hid hg0
      clear ho0 hg0
      go_wp2_with (refine wpList_insert_own (H := Unit) _ rfl _ _ _ 94 rfl 2 9 K2 Try.underlying94 (plainElem Try.prog 9) wo.heap.size 1 _ rfl HOwb0.out (by decide) _ _ (.int .i64 1) rfl rfl (Go.Maps.keyOf_int_mk Try.underlying2 (by decide)) (.lit (.string [2])) [] (HS.out [2] (by simp)) ?_)
      intro wb1 ho1 hg1
      have HOwb1 := Lib.hid ho1
      have HGwb1 := Lib.hid hg1
      clear ho1 hg1
      go_wp2_with (refine wpList_insert_own (H := Unit) _ rfl _ _ _ 94 rfl 2 9 K2 Try.underlying94 (plainElem Try.prog 9) wo.heap.size 2 _ rfl HOwb1.out (by decide) _ _ (.int .i64 (-64)) rfl rfl (Go.Maps.keyOf_int_mk Try.underlying2 (by decide)) (.lit (.string [127])) [] (HS.out [127] (by simp)) ?_)
      intro wb2 ho2 hg2
      have HOwb2 := Lib.hid ho2
      have HGwb2 := Lib.hid hg2
      clear ho2 hg2
      go_wp2_with (refine wpList_insert_own (H := Unit) _ rfl _ _ _ 94 rfl 2 9 K2 Try.underlying94 (plainElem Try.prog 9) wo.heap.size 3 _ rfl HOwb2.out (by decide) _ _ (.int .i64 64) rfl rfl (Go.Maps.keyOf_int_mk Try.underlying2 (by decide)) (.lit (.string [128, 1])) [] (HS.out [128, 1] (by simp)) ?_)
      intro wb3 ho3 hg3
      have HOwb3 := Lib.hid ho3
      have HGwb3 := Lib.hid hg3
      clear ho3 hg3
      go_wp2_with (at_range; refine wpList_range_own (H := Unit) _ rfl _ 94 rfl 2 9 K2 Try.underlying94 (plainElem Try.prog 9) wo.heap.size 4 _ rfl HOwb3.out ?_)
      intro wb5 hr5 hg5 hs5
      have hszB : wo.heap.size < wb3.heap.size := HOwb3.out.lt
      have hb5 : Below w.heap.size w wb5 := below_gb (below_gb (below_gb (below_gb (below_gb ((HBA.out).alloc (HBA.out.size) _) (by first | (simp; done) | (have := HBA.out.size; simp; omega)) (HBA.out.size) HGwb0.out) (by have := HOwb0.out.lt; have := HBA.out.size; omega) (HBA.out.size) HGwb1.out) (by have := HOwb1.out.lt; have := HBA.out.size; omega) (HBA.out.size) HGwb2.out) (by have := HOwb2.out.lt; have := HBA.out.size; omega) (HBA.out.size) HGwb3.out) (by have := HBA.out.size; omega) (HBA.out.size) (hg5.but (some wo.heap.size))
      have HRB : Hid (RangB w wo.heap.size wb3.heap.size wb5) := ⟨hszB, HBA.out.size, hb5, _, _, hr5, fun _ h => h⟩
      clear hr5 hg5 hs5 hb5
      go_wp2_with fail
      go_loopw [] (fun wx => RangB w wo.heap.size wb3.heap.size wx) (fun wx => wx.rangeLeft wo.heap.size wb3.heap.size)
      case atStart => exact HRB.out
      case round =>
        obtain ⟨_, _, hb, left, cnt, hrg, hleft⟩ := hrel
        have HBB := Lib.hid hb
        have HLB := Lib.hid hleft
        have HRGB := Lib.hid hrg
        clear hrg hleft hb
        go_wp2_with (at_next; refine wpList_next_ranges_is _ rfl _ rfl 2 9 .i64 K2 Try.underlying2 Try.underlying9 wo.heap.size wb3.heap.size 4 _ _ _ rfl HRGB.out ?_ ?_)
        · intro _ _
          go_wp2_with fail
          refine (reads_k _ _ (by first | exact reads_at2 _ _ _ _ | exact reads_at2w _ _ _ _)).mono ?_
          rintro e w3 ⟨rfl, hb3⟩
          go_wp2_with fail
          refine (text_abc _ _ (by first | exact reads_at1w _ _ _ | exact (reads_at1 _ _ _ _ rfl).more (by simp))).mono ?_
          rintro e w4 ⟨A4, rfl, hr4, hb4, hf4⟩
          have hcv4 : (convert 29 9 (.slice A4 4 4)).run Try.prog w4 = .ok (.string ⟨#[3, 97, 98, 99]⟩) w4 := run_string_of hr4 4
          clear hr4 hf4
          go_wp2_with fail
          refine (flag_nil _ _ (by first | exact reads_at1w _ _ _ | exact (reads_at1 _ _ _ _ rfl).more (by simp))).mono ?_
          rintro e w5 ⟨A5, rfl, hr5, hb5, hf5⟩
          have hcv5 : (convert 29 9 (.slice A5 1 1)).run Try.prog w5 = .ok (.string ⟨#[1]⟩) w5 := run_string_of hr5 1
          clear hr5 hf5
          go_wp2_with fail
          refine (packs_5 _ _ (reads_5 _ _)).mono ?_
          rintro e w6 ⟨rfl, hb6⟩
          have hb7 := belStep hb6 (show Below wr.heap.size wr _ by (repeat first | assumption | exact Below.refl _ _ | refine Below.drew ?_ | refine bel_drewN ?_ _ | refine allocStep ?_ _ | refine belStep (by assumption) ?_))
          have HB7 := Lib.hid hb7
          clear hb3 hb4 hb5 hb6 hb7
          go_wp2_with fail
          go_ret
          exact ⟨rfl, HBB.out.trans (HB7.out.mono HBB.out.size)⟩

        · intro x c w1 cnt1 hwx hwc hlx hat hrg1 hlt hg1 hs1 hen
          obtain rfl := mapB_entry (HLB.out _ hlx) hat
          have hb1 : Below w.heap.size w w1 := below_gb HBB.out HBB.out.size (by have := HBA.out.size; omega) hg1
          have HLT := Lib.hid hlt
          have hnew : RangB w wo.heap.size wb3.heap.size w1 := ⟨hszB, HBA.out.size, hb1, _, _, hrg1, fun z hz => HLB.out z (by simp at hz; exact hz.1)⟩
          have HN := Lib.hid hnew
          have HR1 := Lib.hid hrg1
          clear hat hlx hg1 hs1 hb1 hrg1 hnew hlt
          go_wp2_with fail
          refine (int_nil _ x _ (by first | exact reads_at1w _ _ _ | exact (reads_at1 _ _ _ _ rfl).more (by simp))).mono ?_
          rintro e w2 ⟨A2, rfl, hr2, hb2, hf2⟩
          have hcv := run_string_of hr2 (numP (foldN x)).length
          have hb3 : Below w1.heap.size w1 w2 := ((Below.refl _ w1).alloc (Nat.le_refl _) _).trans (hb2.mono (by simp))
          have HFIN := Lib.hid (HN.out.below hb3)
          clear hr2 hf2 hb2 hb3
          go_wp2_with fail
          refine ⟨HFIN.out.1, ?_⟩
          rw [HFIN.out.2, HR1.out.left_eq, HRGB.out.left_eq]
          exact HLT.out

    · intro x c w1 cnt1 hwx hwc hlx hat hrg1 hlt hg1 hs1 hen
      obtain ⟨n, rfl, hn, rfl⟩ := mapA_entry (HLA.out _ hlx) hat
      have hb1 : Below w.heap.size w w1 := below_gb HBA.out HBA.out.size (by have := Nat.le_refl w.heap.size; omega) hg1
      have HLT := Lib.hid hlt
      have hnew : RangA w w.heap.size wa3.heap.size w1 := ⟨hszA, Nat.le_refl w.heap.size, hb1, _, _, hrg1, fun z hz => HLA.out z (by simp at hz; exact hz.1)⟩
      have HN := Lib.hid hnew
      have HR1 := Lib.hid hrg1
      clear hat hlx hg1 hs1 hb1 hrg1 hnew hlt
      go_wp2_with fail
      refine (num_nil _ n _ (by first | exact reads_at1w _ _ _ | exact (reads_at1 _ _ _ _ rfl).more (by simp)) hn).mono ?_
      rintro e w2 ⟨A2, rfl, hr2, hb2, hf2⟩
      have hcv := run_string_of hr2 (numP n).length
      have hb3 : Below w1.heap.size w1 w2 := ((Below.refl _ w1).alloc (Nat.le_refl _) _).trans (hb2.mono (by simp))
      have HFIN := Lib.hid (HN.out.below hb3)
      clear hr2 hf2 hb2 hb3
      go_wp2_with fail
      refine ⟨HFIN.out.1, ?_⟩
      rw [HFIN.out.2, HR1.out.left_eq, HRGA.out.left_eq]
      exact HLT.out
end Go.Proofs.Ytfnmpdohpbcegaa
