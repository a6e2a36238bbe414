/- The iterator over frames. -/
import Derived.Test.YtfnmpdohpbcegaaFrame
import Derived.Test.YtfnmpdohpbcegaaIter
import Derived.OwnWalkIn
import Derived.TacticsInMore
import Derived.LoopNIn
import Derived.LoopIn
import Derived.WalkKit
import Derived.WalkMore
import Derived.Deep.QuietTactic
import Derived.Deep.RegionWith
import Derived.BigQuiet
import Derived.Scope
namespace Go.Proofs.Ytfnmpdohpbcegaa
open Go Go.RowKit Go.Shelf
attribute [local go_sem] Oper.semAt_some

def strAt (w : World) (g : Nat) : Nat := match w.cell? ⟨g, 0, none⟩ with | some (.string s) => s.size | _ => 0

theorem strAt_of {w : World} {g : Nat} {s : ByteArray} (h : Blk w g 9 #[.string s]) : strAt w g = s.size := by
  have := h.cell 0
  simp only [List.getElem?_toArray, List.getElem?_cons_zero] at this
  unfold strAt
  rw [this]

set_option maxRecDepth 100000 in
set_option maxHeartbeats 2000000 in
theorem texts1_iter (S : ByteArray) (B gb : Nat) (w : World) (hS : S.size ≤ 140737488351232) (hb : Blk w gb 9 #[.string S]) :
    Iter Try.prog 204 #[.pointer (some ⟨gb, 0, none⟩)] (fun x : List UInt8 => #[.string (bs x)]) (scanN S.data.toList) B (fun b => b = gb) w := by
  intro l W0 J Jx hk0 hM0 hst hstx hY h0
  have hb0 : Blk W0 gb 9 #[.string S] := hk0.blk hb rfl
  have hgb : gb < W0.heap.size := hb0.lt
  refine callsIn_of_wp Try.func204 rfl trivial ?_ rfl
  simp only [Try.ntmps204, List.size_toArray, List.length_cons, List.length_nil, Nat.reduceAdd, Nat.reduceSub, Array.replicate_succ, Array.replicate_zero, List.push_toArray, List.append_toArray, List.nil_append, List.cons_append]
  refine wpIn_wide.2 (wp_scope_straight ((wpIn_wide (n := 0)).1 ?_))
  apply wpIn_seq_k
  intro K hK
  refine wpIn_label (hK _ _ ?_)
  clear hK K
  gi_wp2
  gi_loopw [] (fun wr => ∃ (k : Nat) (cur : ByteArray) (M : Nat → Prop), (scanN S.data.toList).drop k = scanN cur.data.toList ∧ k ≤ (scanN S.data.toList).length ∧ cur.size ≤ S.size ∧ Blk wr gb 9 #[.string cur] ∧ J M k wr ∧ M gb ∧ ∀ b, M b → b < wr.heap.size)
    (fun wr => strAt wr gb)
  case atStart => exact ⟨0, S, _, rfl, Nat.zero_le _, Nat.le_refl _, hb0, h0, rfl, fun b hb => by subst hb; exact hgb⟩
  case round =>
    obtain ⟨k, cur, M, hd, hk, hsz, hbk, hJ, hMg, hMlt⟩ := hrel
    have hc := hbk.cell 0
    simp only [List.getElem?_toArray, List.getElem?_cons_zero] at hc
    have HB := Lib.hid hbk
    have HJ := Lib.hid hJ
    have HD := Lib.hid hd
    have HI := Lib.hid hst
    have HX := Lib.hid hstx
    have HY := Lib.hid hY
    clear hbk hJ hd hst hstx hY hb0 h0 hb hk0
    have fin : ∀ W', Moved M wr W' → frameN cur.data.toList = none → ∃ M, J M (scanN S.data.toList).length W' := by
      intro W' hm hn
      have h1 := HD.out
      rw [scanN_none hn] at h1
      have h2 : (scanN S.data.toList).length ≤ k := List.drop_eq_nil_iff.1 h1
      obtain rfl : k = (scanN S.data.toList).length := by omega
      exact ⟨_, HI.out _ _ _ _ HJ.out hm⟩
    have FIN := Lib.hid fin
    clear fin
    refine wpIn_wide.2 ?_
    cases hh : headN cur.data.toList with
    | none =>
      have hv : ∃ m : Int, sizeV cur.data.toList = .tuple #[.int .i64 m, .bool false] := by
        unfold sizeV; rw [hh]; exact ⟨_, rfl⟩
      obtain ⟨m, hv⟩ := hv
      have HV := Lib.hid hv
      have HH := Lib.hid hh
      clear hv hh
      go_wp2_with fail
      refine (size_any cur _ (by omega)).mono ?_
      rintro e w1 ⟨rfl, hb1⟩
      rw [HV.out]
      go_wp2_with fail
      go_quiet (fail)
      go_wp2_with fail
      rw [Exit.noGoto_normal]
      go_end0
      exact ⟨⟨_, rfl⟩, .inl (FIN.out _ ((Moved.of_below hb1 M).drewN _) (by unfold frameN; rw [HH.out]))⟩
    | some n =>
      have hv : sizeV cur.data.toList = .tuple #[.int .i64 (n : Int), .bool true] := by unfold sizeV; rw [hh]
      have hn : n ≤ 262144 := by
        unfold headN at hh
        split at hh
        · injection hh with hh; omega
        · cases hh
      have HV := Lib.hid hv
      have HH := Lib.hid hh
      clear hv hh
      go_wp2_with fail
      refine (size_any cur _ (by omega)).mono ?_
      rintro e w1 ⟨rfl, hb1⟩
      have hc1 := (HB.out.below hb1 HB.out.lt).cell 0
      simp only [List.getElem?_toArray, List.getElem?_cons_zero] at hc1
      have hn0 : ¬ ((n : Int) < 0) := by omega
      rw [HV.out]
      by_cases hlen : n + 20 ≤ cur.size
      · have hx1 : decide ((cur.size : Int) < (n : Int) + 20) = false := by simp; omega
        go_wp2_with fail
        go_quiet ((go_at_call 47; exact quiet_left (cost_any _ _ (by omega))))
        go_wp2_with fail
        have hx2 : (n : Int) + 20 ≤ (cur.size : Int) := by omega
        have hx3 : cur.size ≤ 140737488351232 := by omega
        cases ho : openN ((cur.data.toList.take (n + 20)).drop 12)
        · have HO := Lib.hid ho
          have hf : frameN cur.data.toList = none := by unfold frameN; rw [HH.out]; simp [ho]
          have HF := Lib.hid hf
          clear ho hf
          go_region_with (first | (go_at_call 47; refine (cost_any _ _ (by omega)).mono ?_; rintro e w' ⟨rfl, rfl⟩) | (go_at_call 48; refine (open_bad _ _ _ hx3 HO.out).mono ?_; rintro e w2 ⟨rfl, hb2⟩))
          all_goals go_wp2_with fail
          all_goals (try rw [Exit.noGoto_normal])
          all_goals go_end0
          all_goals exact ⟨⟨_, rfl⟩, .inl (FIN.out _ ((((Moved.of_below hb1 M).drewN _).trans' (Moved.of_below hb2 (fun _ => False)) (fun _ h => h.elim))) HF.out)⟩
        · have HO := Lib.hid ho
          have hf : frameN cur.data.toList = some n := by
            unfold frameN; rw [HH.out]; simp only [toList_size, hlen, ho, and_self, if_true]
          have HF := Lib.hid hf
          clear ho hf
          go_region_with (first | (go_at_call 47; refine (cost_any _ _ (by omega)).mono ?_; rintro e w' ⟨rfl, rfl⟩) | (go_at_call 48; refine (open_mid _ _ _ hx3 hlen HO.out).mono ?_; rintro e w2 ⟨rfl, hb2⟩))
          all_goals go_step
          all_goals go_step
          all_goals refine (wpIn_wide (n := 0)).1 ?_
          all_goals
            have hm2 : Moved M wr w2 := ((Moved.of_below hb1 M).drewN _).trans' (Moved.of_below hb2 (fun _ => False)) (fun _ h => h.elim)
            have hxk : (scanN S.data.toList)[k]? = some (textN cur.data.toList n) := by
              have h1 := HD.out
              rw [scanN_some HF.out] at h1
              have h2 := congrArg (fun l => l[0]?) h1
              simpa [List.getElem?_drop] using h2
            have hk1 : k < (scanN S.data.toList).length := by
              rcases Nat.lt_or_ge k (scanN S.data.toList).length with h | h
              · exact h
              · rw [List.getElem?_eq_none h] at hxk; cases hxk
            obtain ⟨fn, tmps, assign, body, hy, hR⟩ := HY.out _ k _ w2 (HI.out _ _ _ _ HJ.out hm2) hxk (fun b hb => by
              rcases hb with h | h
              · exact Nat.lt_of_lt_of_le (hMlt b h) hm2.size
              · exact h.2)
            have hb2' : Blk w2 gb 9 #[.string cur] := ((HB.out.below hb1 HB.out.lt).drewN (nq + 1)).below hb2 ((HB.out.below hb1 HB.out.lt).drewN (nq + 1)).lt
            have HB2 := Lib.hid hb2'
            have HXK := Lib.hid hxk
            have HM2 := Lib.hid hm2
            clear hb2' hxk hm2
            gi_wp2
            refine ⟨rfl, hR.mono ?_⟩
            rintro e W3 (⟨rfl, hJ3, hk3⟩ | ⟨rfl, hJ3, hk3⟩)
            · have hb3 := hk3.blk HB2.out (Or.inl hMg)
              have hc3 := hb3.cell 0
              have hf3 := hb3.frozen 0
              simp only [List.getElem?_toArray, List.getElem?_cons_zero] at hc3
              have HB3 := Lib.hid hb3
              have HJ3 := Lib.hid hJ3
              clear hb3 hJ3
              gi_wp2
              refine wpIn_wide.2 ?_
              go_region_with (first | (go_at_call 47; refine (cost_any _ _ (by omega)).mono ?_; rintro e w' ⟨rfl, rfl⟩))
              all_goals
                have hcd : (cur.extract (n + 20) cur.size).data.toList = cur.data.toList.drop (n + 20) := by
                  rw [ext_mid, List.take_of_length_le (by rw [toList_size]; omega)]
                have hb4 := HB3.out.set_ 0 (.string (cur.extract (n + 20) cur.size))
                have hdk : (scanN S.data.toList).drop (k + 1) = scanN (cur.extract (n + 20) cur.size).data.toList := by
                  have h1 := HD.out
                  rw [scanN_some HF.out] at h1
                  rw [hcd, ← List.drop_drop, h1]
                  rfl
                have hlt3 : gb < W3.heap.size := HB3.out.lt
                go_step
                go_step
                go_step
                go_roundw
                case rel =>
                  refine ⟨k + 1, cur.extract (n + 20) cur.size, _, hdk, by omega, by simp; omega, hb4, HI.out _ _ _ _ HJ3.out (((Moved.refl _ W3).setCell (p := ⟨gb, 0, none⟩) (Or.inl (Or.inl hMg)) (.string (cur.extract (n + 20) cur.size))).drewN 1), Or.inl (Or.inl hMg), fun b hb => ?_⟩
                  have hsz4 : (W3.setCell ⟨gb, 0, none⟩ (.string (cur.extract (n + 20) cur.size))).heap.size = W3.heap.size := by simp [World.setCell]
                  rcases hb with (h | h) | h
                  · exact Nat.lt_of_lt_of_le (Nat.lt_of_lt_of_le (hMlt b h) HM2.out.size) (by show W3.heap.size ≥ _; exact hk3.size) |> fun h => by show b < (W3.setCell ⟨gb, 0, none⟩ (.string (cur.extract (n + 20) cur.size))).heap.size; omega
                  · have := hk3.size; show b < (W3.setCell ⟨gb, 0, none⟩ (.string (cur.extract (n + 20) cur.size))).heap.size; omega
                  · exact h.2
                case measure =>
                  rw [strAt_of HB.out]
                  have h4 := strAt_of hb4.drew
                  refine Nat.lt_of_le_of_lt (Nat.le_of_eq h4) ?_
                  simp
                  omega
            · have HJ3 := Lib.hid hJ3
              clear hJ3
              gi_wp2
              rw [Exit.noGoto_normal]
              go_end0
              exact ⟨⟨_, rfl⟩, .inr ⟨_, HJ3.out⟩⟩
      · have hx1 : decide ((cur.size : Int) < (n : Int) + 20) = true := by simp; omega
        go_wp2_with fail
        go_quiet ((go_at_call 47; exact quiet_left (cost_any _ _ (by omega))))
        go_wp2_with fail
        try rw [Exit.noGoto_normal]
        go_end0
        exact ⟨⟨_, rfl⟩, .inl (FIN.out _ ((Moved.of_below hb1 M).drewN _) (by unfold frameN; rw [HH.out, toList_size]; simp [hlen]))⟩
end Go.Proofs.Ytfnmpdohpbcegaa
