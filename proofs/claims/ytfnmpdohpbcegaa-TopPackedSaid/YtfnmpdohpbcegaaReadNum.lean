/- (*Reader).Num. -/
import Derived.Test.YtfnmpdohpbcegaaReader
import Derived.Test.YtfnmpdohpbcegaaBegins
namespace Go.Proofs.Ytfnmpdohpbcegaa
open Go Go.RowKit Go.ChangeShapes

theorem next_reader (g : Nat) (w : World) : Calls Try.prog 145 #[ptr g] w fun e w' => e = .returned (.func (.func 206) #[] #[ptr (w.heap.size + 1), ptr w.heap.size]) ∧ Blk w' (w.heap.size + 1) 3 #[.int .i64 0] ∧ Blk w' w.heap.size 98 #[ptr g] ∧ Below w.heap.size w w' := by
  go_enter Try.func145, Try.ntmps145
  go_wp2_with fail
  go_ret
  refine ⟨rfl, ?_, (Blk.new w 98 _).alloc _, ((Below.refl _ w).alloc (Nat.le_refl _) _).alloc (by simp) _⟩
  have := Blk.new (w.alloc (.cells #[ptr g] 98)) 3 #[.int .i64 0]
  rwa [World.size_alloc] at this

/-- What a reader tells when a number is asked for, and how it stands then. -/
def NumPost (g : Nat) (l : List UInt8) (w : World) (e : Ending) (w' : World) : Prop :=
  e = .returned (.int .u64 ((begN l 0 0).1 : Int)) ∧ Rdr w' g (if (begN l 0 0).2 = 0 then [] else l.drop (begN l 0 0).2) (decide ((begN l 0 0).2 ≠ 0)) ∧ w.grownBy w' (some g)

theorem num_dead {g : Nat} {l : List UInt8} (w : World) (h : Rdr w g l false) : Calls Try.prog 59 #[ptr g] w fun e w' => e = .returned (.int .u64 0) ∧ w = w' := by
  go_enter Try.func59, Try.ntmps59
  go_wp2_with fail
  refine (fine_reader w h).mono ?_
  rintro e w1 ⟨rfl, rfl⟩
  go_wp2_with fail
  go_ret
  exact ⟨rfl, rfl⟩

theorem low_u8 (c : UInt8) : IntKind.u64.wrap (bits .andNot .u8 (c.toNat : Int) 128) = ((c.toNat % 128 : Nat) : Int) := by
  have h2 : ∀ a : Fin 256, IntKind.u64.wrap (bits .andNot .u8 ((a.val : Nat) : Int) 128) = ((a.val % 128 : Nat) : Int) := by decide +kernel
  exact h2 ⟨c.toNat, c.toNat_lt⟩

theorem ext_drop (l : List UInt8) (j : Nat) : (bs l).extract j l.length = bs (l.drop j) := by
  apply ByteArray.ext
  apply Array.toList_inj.1
  simp only [bs, ByteArray.data_extract, Array.toList_extract, List.extract_eq_take_drop]
  rw [List.take_of_length_le (by simp)]
theorem numBad {g : Nat} {l : List UInt8} {w w' : World} (h : begN l 0 0 = (0, 0)) (hR : Rdr w' g [] false) (hg : w.grownBy w' (some g)) : NumPost g l w (.returned (.int .u64 0)) w' := by
  unfold NumPost
  rw [h]
  exact ⟨rfl, hR, hg⟩
theorem numGood {g n k : Nat} {l : List UInt8} {w w' : World} (h : begN l 0 0 = (n, k + 1)) (hR : Rdr w' g (l.drop (k + 1)) true) (hg : w.grownBy w' (some g)) : NumPost g l w (.returned (.int .u64 (n : Int))) w' := by
  unfold NumPost
  rw [h]
  exact ⟨rfl, by simpa using hR, hg⟩
/-- What a told byte leaves. -/
theorem told_world {g a b k : Nat} {l : List UInt8} {w0 w : World} (hR : Rdr w g l true) (hA : Blk w a 3 #[.int .i64 (k : Int)]) (hB : Blk w b 98 #[ptr g]) (hG : w0.grownBy w (some g)) (ha : w0.heap.size ≤ a) :
    Rdr (w.setCell ⟨a, 0, none⟩ (.int .i64 ((k : Int) + 1))).drew.drew g l true ∧ Blk (w.setCell ⟨a, 0, none⟩ (.int .i64 ((k : Int) + 1))).drew.drew a 3 #[.int .i64 ((k + 1 : Nat) : Int)] ∧ Blk (w.setCell ⟨a, 0, none⟩ (.int .i64 ((k : Int) + 1))).drew.drew b 98 #[ptr g] ∧ w0.grownBy (w.setCell ⟨a, 0, none⟩ (.int .i64 ((k : Int) + 1))).drew.drew (some g) := by
  have hab : a ≠ b := hA.ne_ hB (by decide)
  have hag : a ≠ g := hA.ne_ hR (by decide)
  refine ⟨Blk.far (p := ⟨a, 0, none⟩) hR hag.symm _, ?_, Blk.far (p := ⟨a, 0, none⟩) hB hab.symm _, gb_drew (gb_drew (gb_setCell hG (Or.inr ha) _))⟩
  have := hA.set_ 0 (.int .i64 ((k : Int) + 1))
  exact this

set_option maxRecDepth 100000 in
set_option maxHeartbeats 4000000 in
theorem num_live {g : Nat} {l : List UInt8} (w : World) (h : Rdr w g l true) (hl : l.length ≤ 9223372036854775000) : Calls Try.prog 59 #[ptr g] w (NumPost g l w) := by
  have hs := bs_size l
  have hgl := h.lt
  go_enter Try.func59, Try.ntmps59
  go_wp2_with fail
  refine (fine_reader w h).mono ?_
  rintro e w1 ⟨rfl, rfl⟩
  go_wp2_with fail
  refine (next_reader g _).mono ?_
  rintro e w1 ⟨rfl, ha1, hb1, hbe⟩
  have hR1 := h.below hbe hgl
  have HR1 := Lib.hid hR1
  have HA1 := Lib.hid ha1
  have HB1 := Lib.hid hb1
  have HBE := Lib.hid hbe
  clear h hR1 ha1 hb1 hbe
  go_wp2_with fail
  go_loopw [4, 14] (fun x i w' => ∃ (k n : Nat), k ≤ l.length ∧ k ≤ 10 ∧ x = .int .u64 (n : Int) ∧ i = .int .i64 k ∧ n < 128 ^ k ∧ begN l 0 0 = begN (l.drop k) k n ∧ Rdr w' g l true ∧ Blk w' (w.heap.size + 1) 3 #[.int .i64 (k : Int)] ∧ Blk w' w.heap.size 98 #[ptr g] ∧ w.grownBy w' (some g)) (fun _ i _ => 10 - (intOf i).toNat)
  case atStart => exact ⟨0, 0, by omega, by omega, rfl, rfl, by simp, by simp, HR1.out, HA1.out, HB1.out, gb_below HBE.out _⟩
  case round =>
    obtain ⟨k, n, hk, hk10, rfl, rfl, hn, hb, hR, hA, hB, hg⟩ := hrel
    have HR := Lib.hid hR
    have HA := Lib.hid hA
    have HB := Lib.hid hB
    have HG := Lib.hid hg
    by_cases h10 : 10 ≤ k
    · obtain rfl : k = 10 := by omega
      have hb2 : begN l 0 0 = (0, 0) := by
        rw [hb]
        cases l.drop 10 with
        | nil => rfl
        | cons c r => simp [begN]
      have H2 := Lib.hid hb2
      have c2 := hR.c2
      clear hb hb2 hn hR hA hB hg
      go_wp2_with fail
      refine (fail_reader _ HR.out).mono ?_
      rintro e w2 ⟨rfl, hR2, hg2⟩
      have HF := Lib.hid (numBad H2.out hR2 (gb_trans HG.out hg2))
      clear hR2 hg2
      go_wp2_with fail
      go_ret
      exact HF.out
    by_cases hlt : k < l.length
    · rw [List.drop_eq_getElem_cons hlt] at hb
      have hx := low_u8 l[k]
      have hcl := l[k].toNat_lt
      have htold := told_byte wr hR hA hB hlt hl
      have HT := Lib.hid htold
      have HW := Lib.hid (told_world hR hA hB hg (by omega))
      clear hR hA hB hg htold HR HA HB HG
      generalize l[k] = c at *
      obtain ⟨x, hxe⟩ : ∃ x, c.toNat % 128 = x := ⟨_, rfl⟩
      rw [hxe] at hx
      simp only [begN, hxe] at hb
      rw [if_neg h10] at hb
      have hx128 : x < 128 := by omega
      by_cases hA1 : k = 9 ∧ 1 < c.toNat
      · obtain ⟨rfl, h1⟩ := hA1
        have hb2 : begN l 0 0 = (0, 0) := by
          rw [hb]
          by_cases h2 : 1 < x
          · simp [h2]
          · have h3 : ¬ c.toNat < 128 := by omega
            have h4 : c.toNat ≠ 0 := by omega
            simp only [h2, h3, h4]
            simp
            cases l.drop 10 with
            | nil => rfl
            | cons c r => simp [begN]
        have H2 := Lib.hid hb2
        clear hb hb2 hn
        go_wp2_with fail
        refine HT.out.mono ?_
        rintro e w3 ⟨rfl, hw⟩
        have hW := HW.out
        rw [← hw] at hW
        have c2 := hW.1.c2
        have HW3 := Lib.hid hW
        clear hw HW hW HT
        go_wp2_with fail
        refine (fail_reader _ HW3.out.1).mono ?_
        rintro e w4 ⟨rfl, hR4, hg4⟩
        have HF := Lib.hid (numBad H2.out hR4 (gb_trans HW3.out.2.2.2 hg4))
        clear hR4 hg4
        go_wp2_with fail
        go_ret
        exact HF.out
      · by_cases hB1 : 0 < k ∧ c.toNat = 0
        · have hb2 : begN l 0 0 = (0, 0) := by
            rw [hb, if_pos (Or.inr hB1)]
          obtain ⟨h1, h2⟩ := hB1
          obtain rfl : x = 0 := by omega
          have H2 := Lib.hid hb2
          have hx0 : IntKind.u64.wrap (bits .andNot .u8 0 128) = 0 := by decide +kernel
          clear hb hb2 hn hA1 hx
          by_cases h9 : k = 9
          · subst h9
            go_wp2_with fail
            refine HT.out.mono ?_
            rintro e w3 ⟨rfl, hw⟩
            have hW := HW.out
            rw [← hw] at hW
            have c2 := hW.1.c2
            have HW3 := Lib.hid hW
            clear hw HW hW HT
            go_wp2_with fail
            refine (fail_reader _ HW3.out.1).mono ?_
            rintro e w4 ⟨rfl, hR4, hg4⟩
            have HF := Lib.hid (numBad H2.out hR4 (gb_trans HW3.out.2.2.2 hg4))
            clear hR4 hg4
            go_wp2_with fail
            go_ret
            exact HF.out
          · skip
            go_wp2_with fail
            refine HT.out.mono ?_
            rintro e w3 ⟨rfl, hw⟩
            have hW := HW.out
            rw [← hw] at hW
            have c2 := hW.1.c2
            have HW3 := Lib.hid hW
            clear hw HW hW HT
            go_wp2_with fail
            refine (fail_reader _ HW3.out.1).mono ?_
            rintro e w4 ⟨rfl, hR4, hg4⟩
            have HF := Lib.hid (numBad H2.out hR4 (gb_trans HW3.out.2.2.2 hg4))
            clear hR4 hg4
            go_wp2_with fail
            go_ret
            exact HF.out
        · rw [if_neg (by omega)] at hb
          obtain ⟨hj1, hj2, hj3⟩ := join7 hn hx128 (by omega : k < 10) (fun h => by omega)
          generalize n + x * 128 ^ k = m at *
          have hb9 : k = 9 → c.toNat ≤ 1 := fun h => by omega
          have hb0 : 0 < k → 0 < c.toNat := fun h => by omega
          have HJ2 := Lib.hid hj2
          by_cases hlast : c.toNat < 128
          · rw [if_pos hlast] at hb
            have H2 := Lib.hid hb
            obtain rfl : x = c.toNat := by omega
            clear hb hn hj2 hA1 hB1
            by_cases h9 : k = 9
            · subst h9
              have hc1 : c.toNat = 1 := by have := hb9 rfl; have := hb0 (by omega); omega
              have hx1 : IntKind.u64.wrap (bits .andNot .u8 1 128) = 1 := by decide +kernel
              have hj : bits .or .u64 (n : Int) 9223372036854775808 = (m : Int) := by
                rw [IntKind.wrap_u64, show ((2 : Int) ^ (7 * 9)) = 9223372036854775808 from rfl, hc1] at hj1
                rw [← hj1]; rfl
              clear hb9 hb0 hj1
              go_wp2_with fail
              refine HT.out.mono ?_
              rintro e w3 ⟨rfl, hw⟩
              have hW := HW.out
              rw [← hw] at hW
              have c0 := hW.1.c0
              have f0 := hW.1.fz 0
              have hp := hW.1.put0 (l.drop (9 + 1))
              have hgp := gb_setCell hW.2.2.2 (p := ⟨g, 0, none⟩) (Or.inl rfl) (.string (bs (l.drop (9 + 1))))
              have HP := Lib.hid hp
              have HGP := Lib.hid hgp
              clear hp hgp
              have HW3 := Lib.hid hW
              clear hw HW hW HT
              go_wp2_with fail
              all_goals
                go_ret
                rw [ext_drop]
                exact numGood H2.out HP.out HGP.out
            · by_cases h0 : k = 0
              · subst h0
                have hj : bits .or .u64 (n : Int) (c.toNat : Int) = (m : Int) := by
                  rw [IntKind.wrap_u64, show ((2 : Int) ^ (7 * 0)) = 1 from rfl] at hj1
                  rw [← hj1]; congr 1; omega
                clear hb9 hb0 hj1
                go_wp2_with fail
                refine HT.out.mono ?_
                rintro e w3 ⟨rfl, hw⟩
                have hW := HW.out
                rw [← hw] at hW
                have c0 := hW.1.c0
                have f0 := hW.1.fz 0
                have hp := hW.1.put0 (l.drop (0 + 1))
                have hgp := gb_setCell hW.2.2.2 (p := ⟨g, 0, none⟩) (Or.inl rfl) (.string (bs (l.drop (0 + 1))))
                have HP := Lib.hid hp
                have HGP := Lib.hid hgp
                clear hp hgp
                have HW3 := Lib.hid hW
                clear hw HW hW HT
                go_wp2_with fail
                all_goals
                  go_ret
                  rw [ext_drop]
                  exact numGood H2.out HP.out HGP.out
              · have hc0 := hb0 (by omega)
                have hcz : ((c.toNat : Int) == 0) = false := beq_eq_false_iff_ne.2 (by omega)
                clear hb9 hb0 hc0
                go_wp2_with fail
                refine HT.out.mono ?_
                rintro e w3 ⟨rfl, hw⟩
                have hW := HW.out
                rw [← hw] at hW
                have c0 := hW.1.c0
                have f0 := hW.1.fz 0
                have hp := hW.1.put0 (l.drop (k + 1))
                have hgp := gb_setCell hW.2.2.2 (p := ⟨g, 0, none⟩) (Or.inl rfl) (.string (bs (l.drop (k + 1))))
                have HP := Lib.hid hp
                have HGP := Lib.hid hgp
                clear hp hgp
                have HW3 := Lib.hid hW
                clear hw HW hW HT
                go_wp2_with fail
                all_goals
                  go_ret
                  rw [ext_drop]
                  exact numGood H2.out HP.out HGP.out
          · rw [if_neg hlast] at hb
            have H2 := Lib.hid hb
            clear hb hn hj2 hA1 hB1
            have h9 : ¬ k = 9 := fun h => by have := hb9 h; omega
            have hcz : ((c.toNat : Int) == 0) = false := beq_eq_false_iff_ne.2 (by omega)
            by_cases h0 : k = 0
            · subst h0
              have hj : bits .or .u64 (n : Int) (x : Int) = (m : Int) := by
                rw [IntKind.wrap_u64, show ((2 : Int) ^ (7 * 0)) = 1 from rfl] at hj1
                rw [← hj1]; congr 1; omega
              clear hb9 hb0 hj1
              go_wp2_with fail
              refine HT.out.mono ?_
              rintro e w3 ⟨rfl, hw⟩
              have hW := HW.out
              rw [← hw] at hW
              have c2 := hW.1.c2
              have HW3 := Lib.hid hW
              clear hw HW hW HT
              go_wp2_with fail
              go_roundw
              case rel => exact ⟨1, m, by omega, by omega, rfl, rfl, HJ2.out, H2.out, HW3.out⟩
              case measure => simp [intOf]
            · clear hb9 hb0
              go_wp2_with fail
              refine HT.out.mono ?_
              rintro e w3 ⟨rfl, hw⟩
              have hW := HW.out
              rw [← hw] at hW
              have c2 := hW.1.c2
              have HW3 := Lib.hid hW
              clear hw HW hW HT
              go_wp2_with fail
              go_roundw
              case rel => exact ⟨k + 1, m, by omega, by omega, rfl, by go_num, HJ2.out, H2.out, HW3.out⟩
              case measure => simp [intOf]; omega
    · obtain rfl : k = l.length := by omega
      have hb2 : begN l 0 0 = (0, 0) := by rw [hb]; simp [begN]
      have H2 := Lib.hid hb2
      have HT := Lib.hid (told_none wr hR hA hB)
      have hR3 : Rdr wr.drew g l true := Blk.drew hR
      have c2 := hR3.c2
      have HR3 := Lib.hid hR3
      clear hb hb2 hn hR hA hB hg hR3
      go_wp2_with fail
      refine HT.out.mono ?_
      rintro e w3 ⟨rfl, hw⟩
      rw [← hw] at c2
      have HW := Lib.hid hw
      clear hw
      go_wp2_with fail
      refine (fail_reader w3 (by rw [HW.out]; exact HR3.out)).mono ?_
      rintro e w4 ⟨rfl, hR4, hg4⟩
      have HF := Lib.hid (numBad H2.out hR4 (gb_trans (by rw [HW.out]; exact gb_drew HG.out) hg4))
      clear hR4 hg4
      go_wp2_with fail
      go_ret
      exact HF.out
end Go.Proofs.Ytfnmpdohpbcegaa
