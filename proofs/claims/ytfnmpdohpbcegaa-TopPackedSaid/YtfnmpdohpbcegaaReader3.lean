/- (*Reader).Text. -/
import Derived.Test.YtfnmpdohpbcegaaReader2
namespace Go.Proofs.Ytfnmpdohpbcegaa
open Go Go.RowKit Go.ChangeShapes

theorem ext_pre (l : List UInt8) (n : Nat) : (bs l).extract 0 n = bs (l.take n) := by
  apply ByteArray.ext
  apply Array.toList_inj.1
  simp [bs, ByteArray.data_extract]
/-- What stands in a reader after a text of at most 'most' bytes was asked for. -/
def textS (f : Bool) (l : List UInt8) (most : Nat) : Bool × List UInt8 × List UInt8 :=
  if (numS f l).1 = true then
    (if (numS f l).2.1.length < (numS f l).2.2 ∨ most < (numS f l).2.2 then (false, [], [])
     else (true, (numS f l).2.1.drop (numS f l).2.2, (numS f l).2.1.take (numS f l).2.2))
  else (false, (numS f l).2.1, [])

theorem text_reader {g : Nat} {f : Bool} {l : List UInt8} (most : Nat) (w : World) (h : Rdr w g l f) (hl : l.length ≤ 9223372036854775000) (hm : most < 9223372036854775808) :
    Calls Try.prog 62 #[ptr g, .int .i64 (most : Int)] w fun e w' => e = .returned (.string (bs (textS f l most).2.2)) ∧ Rdr w' g (textS f l most).2.1 (textS f l most).1 ∧ w.grownBy w' (some g) := by
  have hnum := num_reader w h hl
  have hl2 : (numS f l).2.1.length ≤ l.length := by
    unfold numS
    split
    · split
      · simp
      · simp
    · simp
  unfold textS
  generalize numS f l = q at *
  obtain ⟨f2, l2, n⟩ := q
  simp only at hnum hl2 ⊢
  have hs := bs_size l2
  have HN := Lib.hid hnum
  clear hnum h
  cases f2 with
  | false =>
    simp only [Bool.false_eq_true, if_false]
    go_enter Try.func62, Try.ntmps62
    go_wp2_with fail
    refine HN.out.mono ?_
    rintro e w1 ⟨rfl, hR, hg⟩
    have HR := Lib.hid hR
    have HG := Lib.hid hg
    clear hR hg
    go_wp2_with fail
    refine (fine_reader _ HR.out).mono ?_
    rintro e w2 ⟨rfl, rfl⟩
    go_wp2_with fail
    go_ret
    exact ⟨rfl, HR.out, HG.out⟩
  | true =>
    simp only [if_true]
    by_cases hbad : l2.length < n ∨ most < n
    · rw [if_pos hbad]
      simp only
      go_enter Try.func62, Try.ntmps62
      go_wp2_with fail
      refine HN.out.mono ?_
      rintro e w1 ⟨rfl, hR, hg⟩
      have c0 := hR.c0
      have c2 := hR.c2
      have HR := Lib.hid hR
      have HG := Lib.hid hg
      clear hR hg
      go_wp2_with fail
      refine (fine_reader _ HR.out).mono ?_
      rintro e w2 ⟨rfl, rfl⟩
      rcases Nat.lt_or_ge l2.length n with h1 | h1
      · clear hbad
        go_wp2_with fail
        refine (fail_reader _ HR.out).mono ?_
        rintro e w3 ⟨rfl, hR2, hg2⟩
        have HR2 := Lib.hid hR2
        have HG2 := Lib.hid (gb_trans HG.out hg2)
        clear hR2 hg2
        go_wp2_with fail
        go_ret
        exact ⟨rfl, HR2.out, HG2.out⟩
      · have h2 : most < n := by omega
        clear hbad
        go_wp2_with fail
        refine (fail_reader _ HR.out).mono ?_
        rintro e w3 ⟨rfl, hR2, hg2⟩
        have HR2 := Lib.hid hR2
        have HG2 := Lib.hid (gb_trans HG.out hg2)
        clear hR2 hg2
        go_wp2_with fail
        go_ret
        exact ⟨rfl, HR2.out, HG2.out⟩
    · rw [if_neg hbad]
      simp only
      have h1 : n ≤ l2.length := by omega
      have h2 : n ≤ most := by omega
      clear hbad
      go_enter Try.func62, Try.ntmps62
      go_wp2_with fail
      refine HN.out.mono ?_
      rintro e w1 ⟨rfl, hR, hg⟩
      have c0 := hR.c0
      have f0 := hR.fz 0
      have HR := Lib.hid hR
      have HP := Lib.hid (hR.put0 (l2.drop n))
      have HGP := Lib.hid (gb_setCell hg (p := ⟨g, 0, none⟩) (Or.inl rfl) (.string (bs (l2.drop n))))
      clear hR hg
      go_wp2_with fail
      refine (fine_reader _ HR.out).mono ?_
      rintro e w2 ⟨rfl, rfl⟩
      go_wp2_with fail
      go_ret
      rw [ext_drop]
      refine ⟨?_, HP.out, HGP.out⟩
      show Ending.returned (.string ((bs l2).extract 0 n)) = _
      rw [ext_pre]
end Go.Proofs.Ytfnmpdohpbcegaa
