/- same33 at equal lists. -/
import Derived.Test.YtfnmpdohpbcegaaPut
import Derived.IntWalk
namespace Go.Proofs.Ytfnmpdohpbcegaa
open Go Go.RowKit

set_option maxRecDepth 100000 in
theorem same_str {B B' : Nat} (A A' : Option Addr) (c c' : Nat) (l : List (List UInt8)) (w : World) (hl : l.length ≤ 9223372036854775000) (hB : B ≤ w.heap.size) (hB' : B' ≤ w.heap.size)
    (hr : Reads w B 1 A l.length (strs l)) (hr' : Reads w B' 1 A' l.length (strs l)) :
    Calls Try.prog 51 #[.slice A l.length c, .slice A' l.length c'] w fun e w' => e = .returned (.bool true) ∧ Below w.heap.size w w' := by
  go_enter Try.func51, Try.ntmps51
  go_wp2_with fail
  go_loopw [13] (fun i w' => ∃ k : Nat, k ≤ l.length ∧ i = .int .i64 k ∧ Below w.heap.size w w') (fun i _ => l.length - (intOf i).toNat)
  case atStart => exact ⟨0, by omega, rfl, Below.refl _ _⟩
  case round =>
    obtain ⟨k, hk, rfl, hb⟩ := hrel
    by_cases hlt : k < l.length
    · obtain ⟨ad, u, rfl, _, hx, hc⟩ := (hr.below (hb.mono hB)).at_ hlt
      obtain ⟨_, rfl⟩ := strs_at hx
      obtain ⟨ad', u', rfl, _, hx', hc'⟩ := (hr'.below (hb.mono hB')).at_ hlt
      obtain ⟨_, rfl⟩ := strs_at hx'
      clear hx hx'
      go_wp2_with fail
      go_quiet (fail)
      go_wp2_with fail
      go_roundw
      case rel => exact ⟨k + 1, by omega, by go_num, bel_drewN hb _⟩
      case measure => simp [intOf]; omega
    · go_wp2_with fail
      go_ret
      exact ⟨rfl, hb⟩

theorem elStr9 : El Try.prog 25 9 (.string ⟨#[]⟩) 1 16 := elStr
theorem drop_take_bs (S : ByteArray) (a b : Nat) : bs ((S.data.toList.take b).drop a) = S.extract a b := by
  apply ByteArray.ext
  apply Array.ext'
  rw [ext_mid]
  simp [bs]

theorem or4 {a b c d : Nat} (ha : a < 256) (hb : b < 256) (hc : c < 256) (hd : d < 256) :
    bits .or .i64 (bits .or .i64 (bits .or .i64 (wrap64 (a : Int)) (wrap64 (wrap64 (b : Int) * 256))) (wrap64 (wrap64 (c : Int) * 65536))) (wrap64 (wrap64 (d : Int) * 16777216)) = ((a + 256 * b + 65536 * c + 16777216 * d : Nat) : Int) := by
  have h0 : wrap64 (a : Int) = a := by unfold wrap64; omega
  have h1 := or_step (x := a) (c := b) (k := 1) (by omega) (by omega) hb
  have h2 := or_step (x := a + 256 ^ 1 * b) (c := c) (k := 2) (by omega) (by omega) hc
  have h3 := or_step (x := a + 256 ^ 1 * b + 256 ^ 2 * c) (c := d) (k := 3) (by omega) (by omega) hd
  rw [h0]
  rw [show (256 : Int) = 2 ^ (8 * 1) from rfl, show (65536 : Int) = 2 ^ (8 * 2) from rfl, show (16777216 : Int) = 2 ^ (8 * 3) from rfl, h1, h2, h3]
theorem drop4 (l : List UInt8) (k : Nat) (h : k + 4 ≤ l.length) : (l.drop k).take 4 = [l[k], l[k + 1], l[k + 2], l[k + 3]] := by
  rw [List.drop_eq_getElem_cons (by omega), List.drop_eq_getElem_cons (by omega), List.drop_eq_getElem_cons (by omega), List.drop_eq_getElem_cons (by omega)]
  rfl
theorem le4_at (S : ByteArray) (k : Nat) (h : k + 4 ≤ S.size) : leN ((S.data.toList.drop k).take 4) = S[k].toNat + 256 * S[k + 1].toNat + 65536 * S[k + 2].toNat + 16777216 * S[k + 3].toNat := by
  rw [drop4 _ _ (by rw [toList_size]; exact h)]
  simp only [leN]
  show S[k].toNat + 256 * (S[k + 1].toNat + 256 * (S[k + 2].toNat + 256 * (S[k + 3].toNat + 256 * 0))) = _
  omega

theorem val_i64 {a b : Int} (h : a = b) : Value.int .i64 a = .int .i64 b := by rw [h]
/-- Strings are handed back, and a number. -/
def RetStrs (l : List (List UInt8)) (t : Nat) (w : World) (e : Ending) (w' : World) : Prop :=
  ∃ A c, e = .returned (.tuple #[.slice A l.length c, .int .i64 (t : Int)]) ∧ Reads w' w'.heap.size 1 A l.length (strs l) ∧ Below w.heap.size w w'

set_option maxRecDepth 100000 in
set_option maxHeartbeats 2000000 in
theorem scans33_any (S : ByteArray) (w : World) (hS : S.size ≤ 140737488351232) :
    Calls Try.prog 50 #[.string S] w (RetStrs (scanN S.data.toList) (costN (scanN S.data.toList)) w) := by
  go_enter Try.func50, Try.ntmps50
  go_wp2_with fail
  go_loopw [4, 5] (fun v i w' => ∃ k : Nat, k ≤ (scanN S.data.toList).length ∧ i = .int .i64 ((costN ((scanN S.data.toList).take k) : Nat) : Int) ∧ scanN (S.data.toList.drop (costN ((scanN S.data.toList).take k))) = (scanN S.data.toList).drop k ∧
      Own w' w.heap.size 9 1 v k (strs ((scanN S.data.toList).take k)) ∧ Below w.heap.size w w') (fun _ i _ => S.size - (intOf i).toNat)
  case atStart => exact ⟨0, by omega, rfl, by simp [costN], Own.nil_ _ _ _ _, Below.refl _ _⟩
  case round =>
    obtain ⟨k, hk, rfl, hd, hown, hb⟩ := hrel
    have hcost := scan_frames_le S.data.toList
    rw [toList_size] at hcost
    have hcl := costN_le (scanN S.data.toList) k
    have hge := costN_ge ((scanN S.data.toList).take k)
    have hlk : ((scanN S.data.toList).take k).length = k := by simp; omega
    rw [hlk] at hge
    generalize hat : costN ((scanN S.data.toList).take k) = at_ at *
    have hatl : at_ ≤ S.size := by omega
    have HAT := Lib.hid hat
    have HO := Lib.hid hown
    have HD := Lib.hid hd
    clear hat hown hd hlk hcost hcl
    have fin : frameN (S.data.toList.drop at_) = none → k = (scanN S.data.toList).length := by
      intro hn
      have h1 := HD.out
      rw [scanN_none hn] at h1
      have h2 := List.drop_eq_nil_iff.1 h1.symm
      omega
    have FIN := Lib.hid fin
    clear fin
    by_cases h20 : at_ + 20 ≤ S.size
    · have hx1 : decide (20 ≤ (S.size : Int) - (at_ : Int)) = true := by simp; omega
      have hx2 : (at_ : Int) + 12 ≤ (S.size : Int) := by omega
      have hop : (S.extract at_ (at_ + 12)).data.toList = (S.data.toList.drop at_).take 12 := by
        rw [Lib.extract_data]; congr 1; omega
      have HOP := Lib.hid hop
      clear hop
      cases ho : openN ((S.data.toList.drop at_).take 12)
      · have HOO := Lib.hid ho
        have hf : frameN (S.data.toList.drop at_) = none := by
          have : headN (S.data.toList.drop at_) = none := by unfold headN; rw [ho]; simp
          unfold frameN; rw [this]
        obtain rfl := FIN.out hf
        clear ho hf
        go_wp2_with fail
        refine (opens33_any _ _ (by simp; omega)).mono ?_
        rintro e w1 ⟨rfl, hb1⟩
        rw [HOP.out, HOO.out]
        go_wp2_with fail
        go_ret2
        obtain ⟨A, c, rfl, hr⟩ := (HO.out.below hb1).reads
        rw [List.take_length] at hr
        have h1 := HAT.out
        rw [List.take_length] at h1
        exact ⟨A, c, by rw [h1]; rfl, hr, hb.trans (hb1.mono hb.size)⟩
      · have HOO := Lib.hid ho
        have hi0 : (at_ : Int) < (S.size : Int) := by omega
        have hi1 : (at_ : Int) + 1 < (S.size : Int) := by omega
        have hi2 : (at_ : Int) + 2 < (S.size : Int) := by omega
        have hi3 : (at_ : Int) + 3 < (S.size : Int) := by omega
        go_wp2_with fail
        refine (opens33_any _ _ (by simp; omega)).mono ?_
        rintro e w1 ⟨rfl, hb1⟩
        rw [HOP.out, HOO.out]
        go_wp2_with fail
        have hw1 : IntKind.i64.wrap ((at_ : Int) + 1) = (at_ : Int) + 1 := IntWalk.i64_in _ (by omega)
        have hp1 : 0 ≤ (at_ : Int) + 1 := by omega
        have ht1 : ((at_ : Int) + 1).toNat = at_ + 1 := by omega
        have hw2 : IntKind.i64.wrap ((at_ : Int) + 2) = (at_ : Int) + 2 := IntWalk.i64_in _ (by omega)
        have hp2 : 0 ≤ (at_ : Int) + 2 := by omega
        have ht2 : ((at_ : Int) + 2).toNat = at_ + 2 := by omega
        have hw3 : IntKind.i64.wrap ((at_ : Int) + 3) = (at_ : Int) + 3 := IntWalk.i64_in _ (by omega)
        have hp3 : 0 ≤ (at_ : Int) + 3 := by omega
        have ht3 : ((at_ : Int) + 3).toNat = at_ + 3 := by omega
        go_quiet (fail)
        go_step
        go_step
        have hval := or4 (UInt8.toNat_lt S[at_]) (UInt8.toNat_lt S[at_ + 1]) (UInt8.toNat_lt S[at_ + 2]) (UInt8.toNat_lt S[at_ + 3])
        rw [← le4_at S at_ (by omega)] at hval
        rw [hval]
        generalize hn : leN ((S.data.toList.drop at_).take 4) = n
        rw [hn] at hval
        have HN := Lib.hid hn
        clear hval hn hw1 hw2 hw3
        by_cases hbig : n ≤ 262144
        · have hh : headN (S.data.toList.drop at_) = some n := by
            unfold headN
            rw [HN.out, if_pos ⟨by simp; omega, ho, hbig⟩]
          by_cases hfit : at_ + (n + 20) ≤ S.size
          · have hy1 : decide ((S.size : Int) - (at_ : Int) < (n : Int) + 20) = false := by simp; omega
            have hy2 : decide (262144 < (n : Int)) = false := by simp; omega
            have hop2 : (S.extract (at_ + 12) (at_ + 20 + n)).data.toList = ((S.data.toList.drop at_).take (n + 20)).drop 12 := by
              rw [ext_mid, List.drop_take, List.drop_take, List.drop_drop]
              congr 1
              omega
            have HOP2 := Lib.hid hop2
            clear hop2
            cases ho2 : openN (((S.data.toList.drop at_).take (n + 20)).drop 12)
            · have hf : frameN (S.data.toList.drop at_) = none := by unfold frameN; rw [hh]; simp [ho2]
              obtain rfl := FIN.out hf
              have HO2 := Lib.hid ho2
              clear hf hh ho ho2
              go_wp2_with fail
              refine (opens33_any _ _ (by simp; omega)).mono ?_
              rintro e w3 ⟨rfl, hb3⟩
              rw [HOP2.out, HO2.out]
              have hb4 := (bel_drewN (hb.trans (hb1.mono hb.size)) nq).trans (hb3.mono (Nat.le_trans hb.size hb1.size))
              have HO3 := Lib.hid (((HO.out.below hb1).drewN nq).below hb3)
              go_wp2_with fail
              go_ret2
              obtain ⟨A, c, rfl, hr⟩ := HO3.out.reads
              rw [List.take_length] at hr
              have h1 := HAT.out
              rw [List.take_length] at h1
              exact ⟨A, c, by rw [h1]; rfl, hr, hb4⟩
            · have hf : frameN (S.data.toList.drop at_) = some n := by unfold frameN; rw [hh]; simp only [List.length_drop, toList_size, ho2, and_true]; rw [if_pos (by omega)]
              have htx : S.extract (at_ + 12) (at_ + 12 + n) = bs (textN (S.data.toList.drop at_) n) := by
                apply ByteArray.ext
                apply Array.ext'
                rw [Lib.extract_data, bs_toList]
                unfold textN
                rw [List.drop_drop]
                congr 1
                omega
              have hsc := HD.out
              rw [scanN_some hf] at hsc
              have hxk : (scanN S.data.toList)[k]? = some (textN (S.data.toList.drop at_) n) := by
                have h2 := congrArg (fun l => l[0]?) hsc
                simpa [List.getElem?_drop] using h2.symm
              have hk1 : k < (scanN S.data.toList).length := (List.getElem?_eq_some_iff.1 hxk).1
              have hct := costN_take _ _ hxk
              rw [textN_length hf, HAT.out] at hct
              have hst := strs_take _ _ hxk
              have hdr : scanN (S.data.toList.drop (at_ + (n + 20))) = (scanN S.data.toList).drop (k + 1) := by
                have h2 := congrArg (fun l => l.drop 1) hsc
                simp only [List.drop_succ_cons, List.drop_zero, List.drop_drop] at h2
                exact h2
              have HO2 := Lib.hid ho2
              have HT := Lib.hid htx
              have HCT := Lib.hid hct
              have HST := Lib.hid hst
              have HDR := Lib.hid hdr
              have hz1 : (at_ : Int) + 12 + (n : Int) ≤ (S.size : Int) := by omega
              clear hf hh ho ho2 htx hsc hxk hct hst hdr
              go_wp2_with fail
              refine (opens33_any _ _ (by simp; omega)).mono ?_
              rintro e w3 ⟨rfl, hb3⟩
              rw [HOP2.out, HO2.out]
              have hb4 := (bel_drewN (hb.trans (hb1.mono hb.size)) nq).trans (hb3.mono (Nat.le_trans hb.size hb1.size))
              have HO3 := Lib.hid (((HO.out.below hb1).drewN nq).below hb3)
              go_wp2_with (at_builtin; go_must (refine app rfl (.tmp 68) (.tmp 77) elStr rfl w.heap.size _ k _ rfl (HO3.out.alloc _) _ 1 [.string (S.extract (at_ + 12) (at_ + 12 + n))] rfl (Gives.of_reads (Reads.new _ _ 9 1 1 rfl)) (by intro u hu; simp at hu; subst hu; rfl) ?c1 ?c2 ?c3 ?_))
              case c1 => unfold maxLen; omega
              case c2 => omega
              case c3 => have := hb4.size; simp; omega
              intro v5 w5 hown5 hg5 hv5 hnil5
              have hb5 : Below w.heap.size w w5 := (hb4.alloc hb4.size _).grown hg5 (by have := hb4.size; simp; omega) (fun b hb => (HO3.out.lt b hb).1)
              have HO5 := Lib.hid hown5
              clear hown5 hg5 hv5 hnil5
              go_wp2_with fail
              go_roundw
              case rel => exact ⟨k + 1, by omega, by rw [HCT.out]; exact val_i64 (by omega), by rw [HCT.out]; exact HDR.out, by rw [HST.out, ← HT.out]; exact HO5.out, hb5⟩
              case measure => simp [intOf]; omega
          · have hy1 : decide ((S.size : Int) - (at_ : Int) < (n : Int) + 20) = true := by simp; omega
            have hy2 : decide (262144 < (n : Int)) = false := by simp; omega
            have hf : frameN (S.data.toList.drop at_) = none := by
              cases h : frameN (S.data.toList.drop at_) with
              | none => rfl
              | some m =>
                have h1 := frameN_le h
                unfold frameN at h
                rw [hh] at h
                dsimp only at h
                split at h
                · injection h with h; simp at h1; omega
                · cases h
            obtain rfl := FIN.out hf
            clear hf hh ho
            go_wp2_with fail
            go_ret2
            obtain ⟨A, c, rfl, hr⟩ := (HO.out.below hb1).reads
            rw [List.take_length] at hr
            have h1 := HAT.out
            rw [List.take_length] at h1
            exact ⟨A, c, by rw [h1]; rfl, hr, bel_drewN (hb.trans (hb1.mono hb.size)) _⟩
        · have hf : frameN (S.data.toList.drop at_) = none := by
            have : headN (S.data.toList.drop at_) = none := by unfold headN; rw [HN.out]; simp [hbig]
            unfold frameN; rw [this]
          obtain rfl := FIN.out hf
          clear hf
          go_wp2_with fail
          go_ret2
          obtain ⟨A, c, rfl, hr⟩ := (HO.out.below hb1).reads
          rw [List.take_length] at hr
          have h1 := HAT.out
          rw [List.take_length] at h1
          exact ⟨A, c, by rw [h1]; rfl, hr, bel_drewN (hb.trans (hb1.mono hb.size)) _⟩
    · have hf : frameN (S.data.toList.drop at_) = none := by
        cases h : frameN (S.data.toList.drop at_) with
        | none => rfl
        | some n => have := frameN_le h; simp at this; omega
      obtain rfl := FIN.out hf
      have hx1 : decide ((S.size : Int) - (at_ : Int) ≥ 20) = false := by simp; omega
      go_wp2_with fail
      go_ret2
      obtain ⟨A, c, rfl, hr⟩ := HO.out.reads
      rw [List.take_length] at hr
      have h1 := HAT.out
      rw [List.take_length] at h1
      exact ⟨A, c, by rw [h1]; rfl, hr, hb⟩
end Go.Proofs.Ytfnmpdohpbcegaa
