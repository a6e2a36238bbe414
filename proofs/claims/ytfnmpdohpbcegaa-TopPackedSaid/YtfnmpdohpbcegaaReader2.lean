/- (*Reader).Int, Flag, Text. -/
import Derived.Test.YtfnmpdohpbcegaaReadNum
namespace Go.Proofs.Ytfnmpdohpbcegaa
open Go Go.RowKit Go.ChangeShapes

/-- What stands in a reader after a number was asked for: still fine, what is left, the number. -/
def numS (f : Bool) (l : List UInt8) : Bool × List UInt8 × Nat :=
  if f then (if (begN l 0 0).2 = 0 then (false, [], 0) else (true, l.drop (begN l 0 0).2, (begN l 0 0).1)) else (false, l, 0)

theorem begN_zero (l : List UInt8) (i n : Nat) (h : (begN l i n).2 = 0) : (begN l i n).1 = 0 := by
  induction l generalizing i n with
  | nil => rfl
  | cons c l ih =>
    unfold begN at h ⊢
    split
    · rfl
    · split
      · rfl
      · split
        · rename_i h1 h2 h3
          rw [if_neg h1, if_neg h2, if_pos h3] at h
          simp at h
        · rename_i h1 h2 h3
          rw [if_neg h1, if_neg h2, if_neg h3] at h
          exact ih _ _ h
theorem begN_lt (l : List UInt8) (i n : Nat) (hi : n < 128 ^ i) : (begN l i n).1 < 18446744073709551616 := by
  induction l generalizing i n with
  | nil => simp [begN]
  | cons c l ih =>
    unfold begN
    split
    · simp
    · split
      · simp
      · rename_i h1 h2
        have hj := join7 hi (by omega : c.toNat % 128 < 128) (by omega : i < 10) (fun h => by omega)
        split
        · exact hj.2.2
        · exact ih _ _ hj.2.1

theorem num_reader {g : Nat} {f : Bool} {l : List UInt8} (w : World) (h : Rdr w g l f) (hl : l.length ≤ 9223372036854775000) :
    Calls Try.prog 59 #[ptr g] w fun e w' => e = .returned (.int .u64 ((numS f l).2.2 : Int)) ∧ Rdr w' g (numS f l).2.1 (numS f l).1 ∧ w.grownBy w' (some g) := by
  cases f with
  | false =>
    refine (num_dead w h).mono ?_
    rintro e w' ⟨rfl, rfl⟩
    exact ⟨rfl, h, gb_refl _ _⟩
  | true =>
    refine (num_live w h hl).mono ?_
    rintro e w' ⟨rfl, hR, hg⟩
    unfold numS
    by_cases h0 : (begN l 0 0).2 = 0
    · simp only [h0, if_true] at hR ⊢
      rw [begN_zero _ _ _ h0]
      exact ⟨rfl, hR, hg⟩
    · rw [if_neg h0, decide_eq_true h0] at hR
      rw [if_pos rfl, if_neg h0]
      exact ⟨rfl, hR, hg⟩

theorem int_reader {g : Nat} {f : Bool} {l : List UInt8} (w : World) (h : Rdr w g l f) (hl : l.length ≤ 9223372036854775000) :
    Calls Try.prog 60 #[ptr g] w fun e w' => e = .returned (.int .i64 (signI (numS f l).2.2)) ∧ Rdr w' g (numS f l).2.1 (numS f l).1 ∧ w.grownBy w' (some g) := by
  have hn : (numS f l).2.2 < 18446744073709551616 := by
    unfold numS
    split
    · split
      · simp
      · exact begN_lt l 0 0 (by simp)
    · simp
  have hnum := num_reader w h hl
  generalize numS f l = q at *
  obtain ⟨f2, l2, n⟩ := q
  simp only at hn hnum ⊢
  have HN := Lib.hid hnum
  clear hnum h
  go_enter Try.func60, Try.ntmps60
  go_wp2_with fail
  refine HN.out.mono ?_
  rintro e w1 ⟨rfl, hR, hg⟩
  have HR := Lib.hid hR
  have HG := Lib.hid hg
  clear hR hg
  go_wp2_with fail
  go_ret
  exact ⟨rfl, HR.out, HG.out⟩

/-- What stands in a reader after a flag was asked for. -/
def flagS (f : Bool) (l : List UInt8) : Bool × List UInt8 × Bool :=
  if 1 < (numS f l).2.2 then (false, [], false) else ((numS f l).1, (numS f l).2.1, decide ((numS f l).2.2 = 1))

theorem flag_reader {g : Nat} {f : Bool} {l : List UInt8} (w : World) (h : Rdr w g l f) (hl : l.length ≤ 9223372036854775000) :
    Calls Try.prog 63 #[ptr g] w fun e w' => e = .returned (.bool (flagS f l).2.2) ∧ Rdr w' g (flagS f l).2.1 (flagS f l).1 ∧ w.grownBy w' (some g) := by
  have hnum := num_reader w h hl
  unfold flagS
  generalize numS f l = q at *
  obtain ⟨f2, l2, n⟩ := q
  simp only at hnum ⊢
  by_cases h1 : 1 < n
  · rw [if_pos h1]
    simp only
    have HN := Lib.hid hnum
    clear hnum h
    go_enter Try.func63, Try.ntmps63
    go_wp2_with fail
    refine HN.out.mono ?_
    rintro e w1 ⟨rfl, hR, hg⟩
    have c2 := hR.c2
    have HR := Lib.hid hR
    have HG := Lib.hid hg
    clear hR hg
    go_wp2_with fail
    refine (fail_reader _ HR.out).mono ?_
    rintro e w2 ⟨rfl, hR2, hg2⟩
    have HR2 := Lib.hid hR2
    have HG2 := Lib.hid (gb_trans HG.out hg2)
    clear hR2 hg2
    go_wp2_with fail
    go_ret
    exact ⟨rfl, HR2.out, HG2.out⟩
  · rw [if_neg h1]
    simp only
    obtain ⟨d, hd⟩ : ∃ d, d = decide (n = 1) := ⟨_, rfl⟩
    rw [← hd]
    have hd2 : ((n : Int) == 1) = d := by
      rw [hd]
      by_cases hn : n = 1
      · subst hn; rfl
      · rw [decide_eq_false hn]; exact beq_eq_false_iff_ne.2 (by omega)
    have HN := Lib.hid hnum
    clear hnum h hd
    go_enter Try.func63, Try.ntmps63
    go_wp2_with fail
    refine HN.out.mono ?_
    rintro e w1 ⟨rfl, hR, hg⟩
    have HR := Lib.hid hR
    have HG := Lib.hid hg
    clear hR hg
    go_wp2_with fail
    go_ret
    exact ⟨rfl, HR.out, HG.out⟩
end Go.Proofs.Ytfnmpdohpbcegaa
