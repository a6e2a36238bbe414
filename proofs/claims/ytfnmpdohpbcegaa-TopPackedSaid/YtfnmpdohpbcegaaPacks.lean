/- packs33 (printed by gen/packs.py). -/
import Derived.Test.YtfnmpdohpbcegaaPacksPure
import Derived.Test.YtfnmpdohpbcegaaReads
namespace Go.Proofs.Ytfnmpdohpbcegaa
open Go Go.RowKit Go.ChangeShapes

theorem reads_w (l : List UInt8) (A : Option Addr) (c : Nat) (ks : List UInt8) (n most : Nat) (w : World) (hr : Reads w w.heap.size 1 A n (byteCells ks)) (hn : ks.length = n) (hl : l.length ≤ 100000) (hks : n ≤ 100000) (hm : most < 9223372036854775808) :
    Calls Try.prog 16 #[.string (bs l), .slice A n c, .int .i64 (most : Int)] w fun e w' => e = .returned (.tuple #[.int .i64 ((runK most ks true l : Nat) : Int), .bool true]) ∧ Below w.heap.size w w' := by
  subst hn
  exact reads_try l A c ks most w (Nat.le_refl _) hr hl hks hm
theorem reads_1000 (l : List UInt8) (A : Option Addr) (c : Nat) (ks : List UInt8) (n : Nat) (w : World) (hr : Reads w w.heap.size 1 A n (byteCells ks)) (hn : ks.length = n) (hl : l.length ≤ 100000) (hks : n ≤ 100000) :
    Calls Try.prog 16 #[.string (bs l), .slice A n c, .int .i64 1000] w fun e w' => e = .returned (.tuple #[.int .i64 ((runK 1000 ks true l : Nat) : Int), .bool true]) ∧ Below w.heap.size w w' :=
  reads_w l A c ks n 1000 w hr hn hl hks (by omega)

set_option maxRecDepth 100000 in
set_option maxHeartbeats 8000000 in
theorem packs_try {B : Nat} (A : Option Addr) (c : Nat) (l : List BitP) (w : World) (hB : B ≤ w.heap.size) (hr : Reads w B 3 A l.length (bitCells l)) (hl : l.length ≤ 20) (hx : ∀ x ∈ l, x.n < 18446744073709551616 ∧ x.t.length ≤ 300) :
    Calls Try.prog 17 #[.slice A l.length c] w fun e w' => e = .returned (.bool true) ∧ Below w.heap.size w w' := by
  have kc := fun (w : World) (C : Array Value) (n c : Nat) => Lib.run_convert_bytes_const (P := Try.prog) w 29 5 C n c Try.underlying29 Try.underlying5
  go_enter Try.func17, Try.ntmps17
  go_wp2_with fail
  go_loopw [3, 4, 5, 14] (fun b d v i w' => ∃ (k : Nat) (A1 : Option Addr) (q : List UInt8), k ≤ l.length ∧ i = .int .i64 k ∧ q = 120 :: bitsP (l.take k) ∧ b = .slice A1 q.length q.length ∧ Reads w' w'.heap.size 1 A1 q.length (byteCells q) ∧
      d = .string (bs q) ∧ Own w' w.heap.size 5 1 v k (byteCells (kindsP (l.take k))) ∧ Apart A1 v ∧ Below w.heap.size w w') (fun _ _ _ i _ => l.length - (intOf i).toNat)
  case atStart => exact ⟨0, _, [120], by omega, rfl, rfl, rfl, by have := Reads.newM w (byteCells [120]) 5 (1, 2) 1 1 rfl; simpa [byteCells] using this, rfl, Own.nil_ _ _ _ _, fun _ _ h => by simp [Value.ownBlock] at h, (Below.refl _ w).alloc (Nat.le_refl _) _⟩
  case round =>
    obtain ⟨k, A1, q, hk, rfl, hq, rfl, hr1, rfl, hown, hap, hb⟩ := hrel
    by_cases hlt : k < l.length
    · obtain ⟨ad, rfl, _, hc0, hc12⟩ := (hr.below (hb.mono hB)).row hlt
      have hat := bitCells_at l k hlt
      have hc0 := hc0 _ hat.1
      have hc1 := hc12 1 _ (by omega) hat.2.1
      have hc2 := hc12 2 _ (by omega) hat.2.2
      have htk := bitsP_take l k hlt
      have hkk := kindsP_take l k hlt
      have hxk := hx l[k] (List.getElem_mem hlt)
      have hpl := bitsP_len (l.take k) (fun x h => hx x (List.mem_of_mem_take h))
      have hpl2 : (l.take k).length ≤ 20 := by simp; omega
      have hql : q.length ≤ 6201 := by rw [hq]; simp only [List.length_cons]; omega
      have htq : 120 :: bitsP (l.take (k + 1)) = q ++ l[k].bytes := by rw [htk, hq]; rfl
      clear hq htk hpl
      generalize kindsP (l.take k) = ks at *
      generalize l[k] = x at *
      have H1 := Lib.hid hr1
      have HO := Lib.hid hown
      have HB := Lib.hid hb
      have HT := Lib.hid htq
      have HK := Lib.hid hkk
      clear hr1 hown hb htq hkk hat hc12
      obtain ⟨kk, hkk⟩ : ∃ kk, x.kind.toNat % 4 = kk := ⟨_, rfl⟩
      have hkz : ((x.kind.toNat : Int) % 4) = (kk : Int) := by omega
      have hk4 : kk = 0 ∨ kk = 1 ∨ kk = 2 ∨ kk = 3 := by omega
      have HKK := Lib.hid hkk
      have HKZ := Lib.hid hkz
      have hksl : ks.length = k := by have := HO.out.1; simpa [byteCells] using this
      have HKS := Lib.hid hksl
      clear hkk hkz hksl
      go_wp2_with (at_builtin; go_must (refine app_bytes rfl (.tmp 18) (.tmp 21) 29 rfl (Or.inr rfl) w.heap.size _ k ks rfl ((HO.out.alloc _).alloc _) _ 1 [x.kind] rfl (gives_at _ _ x.kind _ (by simp) rfl) ?c2 ?c3 ?_))
      case c2 => omega
      case c3 => have := HB.out.size; simp; omega
      intro v' w' hown hg hv
      have hz : wr.heap.size + 2 ≤ w'.heap.size := by have := hg.size; simpa using this
      have hlt5 := HO.out.lt
      have hxb : Blk w' wr.heap.size 32 #[.int .u8 (x.kind.toNat : Int), .int .u64 (x.n : Int), .string (bs x.t)] := ((Blk.new wr 32 _).alloc _).grown hg (fun e => by have := hlt5 _ e.symm; omega)
      have hb' : Below w.heap.size w w' := ((HB.out.alloc HB.out.size _).alloc (by have := HB.out.size; simp; omega) _).grown hg (by have := HB.out.size; simp; omega) (fun b hb => (hlt5 _ hb).1)
      have hr2 : Reads w' wr.heap.size 1 A1 q.length (byteCells q) := ((H1.out.alloc (Nat.le_refl _) _).alloc (by simp) _).apart (by simp; omega) hg hap
      have hlt6 := hown.lt
      have H2 := Lib.hid hr2
      have HO2 := Lib.hid hown
      have HX := Lib.hid hxb
      have HB2 := Lib.hid hb'
      have HL6 := Lib.hid hlt6
      have d0 := hxb.cell 0
      have d1 := hxb.cell 1
      have d2 := hxb.cell 2
      simp only [List.getElem?_toArray, List.getElem?_cons_zero, List.getElem?_cons_succ] at d0 d1 d2
      clear hg hv hlt5 hlt6 hr2 hown hxb hb' hap HO HB H1 hc0 hc1 hc2
      rcases hk4 with rfl | rfl | rfl | rfl
      · skip
        have hbx : x.bytes = numP x.n := by unfold BitP.bytes; rw [HKK.out]; rfl
        have ht2 := HT.out
        rw [hbx] at ht2
        have HT2 := Lib.hid ht2
        have HKK2 := Lib.hid HKK.out
        have hkz := HKZ.out
        clear hbx ht2 HT
        have hz1 : (bs q).size ≤ 6201 := by rw [bs_size]; exact hql
        have hz2 : (bs (numP x.n)).size ≤ 10 := by rw [bs_size]; exact numP_ten hxk.1
        have hz3 : ¬ 9223372036854775807 < (bs q).size + (bs (numP x.n)).size := by omega
        go_wp2_with fail
        have HLT : (⟨wr.heap.size, 1, none⟩ : Addr).block < w'.heap.size := by show wr.heap.size < _; omega
        go_region_held3 (fun w2 => w2.cell? ⟨wr.heap.size, 1, none⟩ = some (.int .u64 (x.n : Int)) ∧ Below w'.heap.size w' w2)
          ((refine keep1 d1 HLT ?_; (repeat first | assumption | exact Below.refl _ _ | refine Below.drew ?_ | refine bel_drewN ?_ _ | refine allocStep ?_ _ | refine belStep (by assumption) ?_)))
          (first | (go_at_call 53; refine (num_w A1 _ q _ _ x.n _ (readsStep H2.out (by omega) (by (repeat first | assumption | exact Below.refl _ _ | refine Below.drew ?_ | refine bel_drewN ?_ _ | refine allocStep ?_ _ | refine belStep (by assumption) ?_))) (by first | exact reads_at1w _ _ _ | exact readsStep (reads_at1w _ _ _) (Nat.le_refl _) (by assumption)) (by omega) hxk.1).mono ?_; rintro e w5 ⟨A5, rfl, hr5, hb5, hf5⟩; have hq5 : Fresh w' A5 := freshStep (by (repeat first | assumption | exact Below.refl _ _ | refine Below.drew ?_ | refine bel_drewN ?_ _ | refine allocStep ?_ _ | refine belStep (by assumption) ?_)) hf5) | (go_at_call 66; refine (number33_any x.n _ hxk.1).mono ?_; rintro e w6 ⟨rfl, hb6⟩))
        all_goals
          rename_i hheld
          have hbf := hheld.2
          have hsz := hbf.size
          have HBF := Lib.hid hbf
          have HQ5 := Lib.hid hq5
          have HHELD := Lib.hid hheld
          clear hheld hbf
          go_wp2_with fail
          go_roundw
          case rel => exact ⟨k + 1, A5, q ++ numP x.n, by omega, by go_num, HT2.out.symm, by simp only [List.length_append], by first | exact hr5 | exact readsStep hr5 (Nat.le_refl _) hb6, by rw [bs_append], by rw [HK.out]; exact HO2.out.below HBF.out, HQ5.out.apart (fun b hb => (HL6.out b hb).2), HB2.out.trans (HBF.out.mono HB2.out.size)⟩
          case measure => simp [intOf]; omega
      · skip
        have hbx : x.bytes = numP (foldN (IntKind.i64.wrap (x.n : Int))) := by unfold BitP.bytes; rw [HKK.out]; rfl
        have ht2 := HT.out
        rw [hbx] at ht2
        have HT2 := Lib.hid ht2
        have HKK2 := Lib.hid HKK.out
        have hkz := HKZ.out
        clear hbx ht2 HT
        have hz1 : (bs q).size ≤ 6201 := by rw [bs_size]; exact hql
        have hz2 : (bs (numP (foldN (IntKind.i64.wrap (x.n : Int))))).size ≤ 10 := by rw [bs_size]; exact numP_ten (foldN_eq _).2
        have hz3 : ¬ 9223372036854775807 < (bs q).size + (bs (numP (foldN (IntKind.i64.wrap (x.n : Int))))).size := by omega
        go_wp2_with fail
        have HLT : (⟨wr.heap.size, 1, none⟩ : Addr).block < w'.heap.size := by show wr.heap.size < _; omega
        go_region_held3 (fun w2 => w2.cell? ⟨wr.heap.size, 1, none⟩ = some (.int .u64 (x.n : Int)) ∧ Below w'.heap.size w' w2)
          ((refine keep1 d1 HLT ?_; (repeat first | assumption | exact Below.refl _ _ | refine Below.drew ?_ | refine bel_drewN ?_ _ | refine allocStep ?_ _ | refine belStep (by assumption) ?_)))
          (first | (go_at_call 54; refine (int_w A1 _ q _ (IntKind.i64.wrap (x.n : Int)) _ (readsStep H2.out (by omega) (by (repeat first | assumption | exact Below.refl _ _ | refine Below.drew ?_ | refine bel_drewN ?_ _ | refine allocStep ?_ _ | refine belStep (by assumption) ?_))) (by first | exact reads_at1w _ _ _ | exact readsStep (reads_at1w _ _ _) (Nat.le_refl _) (by assumption)) (by omega)).mono ?_; rintro e w5 ⟨A5, rfl, hr5, hb5, hf5⟩; have hq5 : Fresh w' A5 := freshStep (by (repeat first | assumption | exact Below.refl _ _ | refine Below.drew ?_ | refine bel_drewN ?_ _ | refine allocStep ?_ _ | refine belStep (by assumption) ?_)) hf5) | (go_at_call 67; refine (back_any (IntKind.i64.wrap (x.n : Int)) _).mono ?_; rintro e w7 ⟨rfl, rfl⟩) | (go_at_call 66; refine (number33_any (foldN (IntKind.i64.wrap (x.n : Int))) _ (foldN_eq _).2).mono ?_; rintro e w6 ⟨rfl, hb6⟩))
        all_goals
          rename_i hheld
          have hbf := hheld.2
          have hsz := hbf.size
          have HBF := Lib.hid hbf
          have HQ5 := Lib.hid hq5
          have HHELD := Lib.hid hheld
          clear hheld hbf
          go_wp2_with fail
          go_roundw
          case rel => exact ⟨k + 1, A5, q ++ numP (foldN (IntKind.i64.wrap (x.n : Int))), by omega, by go_num, HT2.out.symm, by simp only [List.length_append], by first | exact hr5 | exact readsStep hr5 (Nat.le_refl _) hb6, by rw [bs_append], by rw [HK.out]; exact HO2.out.below HBF.out, HQ5.out.apart (fun b hb => (HL6.out b hb).2), HB2.out.trans (HBF.out.mono HB2.out.size)⟩
          case measure => simp [intOf]; omega
      · skip
        have hbx : x.bytes = textP x.t := by unfold BitP.bytes; rw [HKK.out]; rfl
        have ht2 := HT.out
        rw [hbx] at ht2
        have HT2 := Lib.hid ht2
        have HKK2 := Lib.hid HKK.out
        have hkz := HKZ.out
        clear hbx ht2 HT
        have hz1 : (bs q).size ≤ 6201 := by rw [bs_size]; exact hql
        have hz2 : (bs (numP (bs x.t).size)).size ≤ 10 := by rw [bs_size]; exact numP_ten (by rw [bs_size]; omega)
        have hz3 : ¬ 9223372036854775807 < (bs q).size + (bs (numP (bs x.t).size)).size := by omega
        have htl : x.t.length ≤ 300 := hxk.2
        have hz4 : (bs x.t).size ≤ 300 := by rw [bs_size]; exact htl
        have hwz : IntKind.u64.wrap ((bs x.t).size : Int) = ((bs x.t).size : Int) := by rw [IntKind.wrap_u64]; omega
        have hz5 : (bs q ++ bs (numP (bs x.t).size)).size ≤ 6211 := by simp; omega
        have hz6 : ¬ 9223372036854775807 < (bs q ++ bs (numP (bs x.t).size)).size + (bs x.t).size := by omega
        have hz7 : ¬ 9223372036854775807 < (bs q).size + (bs (numP (bs x.t).size)).size + (bs x.t).size := by omega
        go_wp2_with fail
        have HLT : (⟨wr.heap.size, 2, none⟩ : Addr).block < w'.heap.size := by show wr.heap.size < _; omega
        go_region_held3 (fun w2 => w2.cell? ⟨wr.heap.size, 2, none⟩ = some (.string (bs x.t)) ∧ Below w'.heap.size w' w2)
          ((refine keep1 d2 HLT ?_; (repeat first | assumption | exact Below.refl _ _ | refine Below.drew ?_ | refine bel_drewN ?_ _ | refine allocStep ?_ _ | refine belStep (by assumption) ?_)))
          (first | (go_at_call 55; refine (text_w A1 _ q _ x.t _ (readsStep H2.out (by omega) (by (repeat first | assumption | exact Below.refl _ _ | refine Below.drew ?_ | refine bel_drewN ?_ _ | refine allocStep ?_ _ | refine belStep (by assumption) ?_))) (by first | exact reads_at1w _ _ _ | exact readsStep (reads_at1w _ _ _) (Nat.le_refl _) (by assumption)) (by omega) htl).mono ?_; rintro e w5 ⟨A5, rfl, hr5, hb5, hf5⟩; have hq5 : Fresh w' A5 := freshStep (by (repeat first | assumption | exact Below.refl _ _ | refine Below.drew ?_ | refine bel_drewN ?_ _ | refine allocStep ?_ _ | refine belStep (by assumption) ?_)) hf5) | (go_at_call 66; refine (number33_any (bs x.t).size _ (by omega)).mono ?_; rintro e w6 ⟨rfl, hb6⟩))
        all_goals
          rename_i hheld
          have hbf := hheld.2
          have hsz := hbf.size
          have HBF := Lib.hid hbf
          have HQ5 := Lib.hid hq5
          have HHELD := Lib.hid hheld
          clear hheld hbf
          go_wp2_with fail
          go_roundw
          case rel => exact ⟨k + 1, A5, q ++ textP x.t, by omega, by go_num, HT2.out.symm, by simp only [List.length_append], by first | exact hr5 | exact readsStep hr5 (Nat.le_refl _) hb6, by unfold textP; rw [bs_append, bs_append, bs_size, List.append_assoc], by rw [HK.out]; exact HO2.out.below HBF.out, HQ5.out.apart (fun b hb => (HL6.out b hb).2), HB2.out.trans (HBF.out.mono HB2.out.size)⟩
          case measure => simp [intOf]; omega
      · rcases Nat.mod_two_eq_zero_or_one x.n with hm | hm
        · skip
          have hbx : x.bytes = numP 0 := by unfold BitP.bytes; rw [HKK.out, hm]; rfl
          have ht2 := HT.out
          rw [hbx] at ht2
          have HT2 := Lib.hid ht2
          have hkz := HKZ.out
          have hmz : ((x.n : Int) % 2) = 0 := by omega
          have hz1 : (bs q).size ≤ 6201 := by rw [bs_size]; exact hql
          clear hbx ht2 HT hm
          go_wp2_with fail
          refine (flag_w A1 _ q _ false _ (readsStep H2.out (by omega) (by (repeat first | assumption | exact Below.refl _ _ | refine Below.drew ?_ | refine bel_drewN ?_ _ | refine allocStep ?_ _ | refine belStep (by assumption) ?_))) (reads_at1 _ _ _ _ rfl |>.more (by simp)) (by omega)).mono ?_
          rintro e w5 ⟨A5, rfl, hr5, hb5, hf5⟩
          have hq5 : Fresh w' A5 := freshStep (by (repeat first | assumption | exact Below.refl _ _ | refine Below.drew ?_ | refine bel_drewN ?_ _ | refine allocStep ?_ _ | refine belStep (by assumption) ?_)) hf5
          have hbf : Below w'.heap.size w' w5 := by (repeat first | assumption | exact Below.refl _ _ | refine Below.drew ?_ | refine bel_drewN ?_ _ | refine allocStep ?_ _ | refine belStep (by assumption) ?_)
          have HX5 := Lib.hid (HX.out.below hbf HX.out.lt)
          have e1 := HX5.out.cell 1
          simp only [List.getElem?_toArray, List.getElem?_cons_zero, List.getElem?_cons_succ] at e1
          have HBF := Lib.hid hbf
          have HQ5 := Lib.hid hq5
          have HR5 := Lib.hid hr5
          have hsz := hbf.size
          clear hbf hq5 hr5 hb5 hf5
          go_wp2_with (refine wpList_string_of rfl 29 9 5 (.tmp 38) rfl _ (some ⟨w5.heap.size, 0, none⟩) 1 1 [0] rfl (reads_at1 w5 _ _ _ rfl) Try.underlying29 Try.underlying5 Try.underlying9 ?_)
          go_roundw
          case rel => exact ⟨k + 1, A5, q ++ numP 0, by omega, by go_num, HT2.out.symm, by simp only [List.length_append], (HR5.out.alloc (Nat.le_refl _) _).more (by simp), by rw [show numP 0 = [0] from numP_small (by omega), ← bs_append]; rfl, by rw [HK.out]; exact (HO2.out.below HBF.out).alloc _, HQ5.out.apart (fun b hb => (HL6.out b hb).2), (HB2.out.trans (HBF.out.mono HB2.out.size)).alloc (by have := HB2.out.size; omega) _⟩
          case measure => simp [intOf]; omega
        · skip
          have hbx : x.bytes = numP 1 := by unfold BitP.bytes; rw [HKK.out, hm]; rfl
          have ht2 := HT.out
          rw [hbx] at ht2
          have HT2 := Lib.hid ht2
          have hkz := HKZ.out
          have hmz : ((x.n : Int) % 2) = 1 := by omega
          have hz1 : (bs q).size ≤ 6201 := by rw [bs_size]; exact hql
          clear hbx ht2 HT hm
          go_wp2_with fail
          refine (flag_w A1 _ q _ true _ (readsStep H2.out (by omega) (by (repeat first | assumption | exact Below.refl _ _ | refine Below.drew ?_ | refine bel_drewN ?_ _ | refine allocStep ?_ _ | refine belStep (by assumption) ?_))) (reads_at1 _ _ _ _ rfl |>.more (by simp)) (by omega)).mono ?_
          rintro e w5 ⟨A5, rfl, hr5, hb5, hf5⟩
          have hq5 : Fresh w' A5 := freshStep (by (repeat first | assumption | exact Below.refl _ _ | refine Below.drew ?_ | refine bel_drewN ?_ _ | refine allocStep ?_ _ | refine belStep (by assumption) ?_)) hf5
          have hbf : Below w'.heap.size w' w5 := by (repeat first | assumption | exact Below.refl _ _ | refine Below.drew ?_ | refine bel_drewN ?_ _ | refine allocStep ?_ _ | refine belStep (by assumption) ?_)
          have HX5 := Lib.hid (HX.out.below hbf HX.out.lt)
          have e1 := HX5.out.cell 1
          simp only [List.getElem?_toArray, List.getElem?_cons_zero, List.getElem?_cons_succ] at e1
          have HBF := Lib.hid hbf
          have HQ5 := Lib.hid hq5
          have HR5 := Lib.hid hr5
          have hsz := hbf.size
          clear hbf hq5 hr5 hb5 hf5
          go_wp2_with (refine wpList_string_of rfl 29 9 5 (.tmp 38) rfl _ (some ⟨w5.heap.size, 0, none⟩) 1 1 [1] rfl (reads_at1 w5 _ _ _ rfl) Try.underlying29 Try.underlying5 Try.underlying9 ?_)
          go_roundw
          case rel => exact ⟨k + 1, A5, q ++ numP 1, by omega, by go_num, HT2.out.symm, by simp only [List.length_append], (HR5.out.alloc (Nat.le_refl _) _).more (by simp), by rw [show numP 1 = [1] from numP_small (by omega), ← bs_append]; rfl, by rw [HK.out]; exact (HO2.out.below HBF.out).alloc _, HQ5.out.apart (fun b hb => (HL6.out b hb).2), (HB2.out.trans (HBF.out.mono HB2.out.size)).alloc (by have := HB2.out.size; omega) _⟩
          case measure => simp [intOf]; omega
    · obtain rfl : k = l.length := by omega
      have hrun := runK_bits l hx
      rw [List.take_length] at hq hown
      have hlen := bitsP_len l hx
      have hq1 : (bs q).extract 1 q.length = bs (bitsP l) := by rw [ext_drop, hq]; rfl
      have hql : q.length ≤ 6201 := by rw [hq]; simp only [List.length_cons]; omega
      have hbl : (bitsP l).length ≤ 100000 := by omega
      have hkl : (kindsP l).length = l.length := by simp [kindsP]
      have hqs := bs_size q
      have hq0 : 1 ≤ q.length := by rw [hq]; simp
      obtain ⟨P3, P0, Q30, h30, hp3, hp0, N53, N300, N0⟩ := pack300
      have hp30 : ¬ 9223372036854775807 < (bs P3).size + (bs P0).size := by omega
      have HR := Lib.hid hr1
      obtain ⟨A3, c3, rfl, hrk⟩ := hown.reads
      have HO := Lib.hid hrk
      have HRUN := Lib.hid hrun
      have HQ1 := Lib.hid hq1
      have HKL := Lib.hid hkl
      have HB := Lib.hid hb
      clear hr1 hown hrk hrun hq1 hkl hq hap hb hr hx
      go_wp2_with fail
      have hcv0 := run_string_of (w := wr.drew) HR.out q.length
      go_region_with (first | (go_at_call 53; refine (N53.out _ _ (by first | exact reads_at2w _ _ _ _ | exact reads_at2 _ _ _ _ | exact readsStep (reads_at2w _ _ _ _) (Nat.le_refl _) (by assumption) | exact readsStep (reads_at2 _ _ _ _) (Nat.le_refl _) (by assumption) | exact readsStep (reads_at2w _ _ _ _) (Nat.le_refl _) (belStep hb6 hb7) | exact readsStep (reads_at2w _ _ _ _) (Nat.le_refl _) (belStep hb7 hb6))).mono ?_; rintro e w5 ⟨A5, rfl, hr5, hb5, hf5⟩; have hcv5 := run_string_of hr5 Q30.length) | (go_at_call_of 66 (Value.int IntKind.u64 300); refine (N300.out _).mono ?_; rintro e w6 ⟨rfl, hb6⟩; first | (have hcv6 := run_string_of (readsStep hr5 (Nat.le_refl _) hb6) Q30.length) | (have hcv6 := run_string_of (readsStep hr5 (Nat.le_refl _) (belStep hb6 hb7)) Q30.length) | skip) | (go_at_call_of 66 (Value.int IntKind.u64 0); refine (N0.out _).mono ?_; rintro e w7 ⟨rfl, hb7⟩; first | (have hcv7 := run_string_of (readsStep hr5 (Nat.le_refl _) hb7) Q30.length) | (have hcv7 := run_string_of (readsStep hr5 (Nat.le_refl _) (belStep hb7 hb6)) Q30.length) | skip))
      all_goals
        clear hr5
        go_wp2_with fail
        rw [HQ1.out]
        refine (reads_1000 (bitsP l) A3 c3 (kindsP l) l.length _ (readsStep HO.out (Nat.le_refl _) (by (repeat first | assumption | exact Below.refl _ _ | refine Below.drew ?_ | refine bel_drewN ?_ _ | refine allocStep ?_ _ | refine belStep (by assumption) ?_))) HKL.out hbl (by omega)).mono ?_
        rintro e w8 ⟨rfl, hb8⟩
        rw [HRUN.out]
        have hb9 := belStep hb8 (show Below wr.heap.size wr _ by (repeat first | assumption | exact Below.refl _ _ | refine Below.drew ?_ | refine bel_drewN ?_ _ | refine allocStep ?_ _ | refine belStep (by assumption) ?_))
        go_wp2_with fail
        go_ret
        exact ⟨rfl, HB.out.trans (hb9.mono HB.out.size)⟩
end Go.Proofs.Ytfnmpdohpbcegaa
