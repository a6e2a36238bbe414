/- pack.Reader: what stands in its block; Open, fail, Fine, Over, next. -/
import Derived.Test.YtfnmpdohpbcegaaPack3
import Derived.Laws.EntriesVeiled
namespace Go.Proofs.Ytfnmpdohpbcegaa
open Go Go.RowKit Go.ChangeShapes

/-- The pointer to block g. -/
abbrev ptr (g : Nat) : Value := .pointer (some ⟨g, 0, none⟩)
/-- Block g is a reader: what it has still to read, and whether all was fine. -/
def Rdr (w : World) (g : Nat) (l : List UInt8) (f : Bool) : Prop := Blk w g 250 #[.string (bs l), .bool f, .func (.func 144) #[ptr g] #[]]

theorem Rdr.lt {w : World} {g : Nat} {l : List UInt8} {f : Bool} (h : Rdr w g l f) : g < w.heap.size := Blk.lt h
theorem Rdr.below {B : Nat} {w w' : World} {g : Nat} {l : List UInt8} {f : Bool} (h : Rdr w g l f) (hb : Below B w w') (hg : g < B) : Rdr w' g l f := Blk.below h hb hg

section
variable {w : World} {g : Nat} {l : List UInt8} {f : Bool}
theorem Rdr.c0 (h : Rdr w g l f) : w.cell? ⟨g, 0, none⟩ = some (.string (bs l)) := Blk.cell h 0
theorem Rdr.c1 (h : Rdr w g l f) : w.cell? ⟨g, 1, none⟩ = some (.bool f) := Blk.cell h 1
theorem Rdr.c2 (h : Rdr w g l f) : w.cell? ⟨g, 2, none⟩ = some (.func (.func 144) #[ptr g] #[]) := Blk.cell h 2
theorem Rdr.fz (h : Rdr w g l f) (i : Nat) : w.frozen? ⟨g, i, none⟩ = false := Blk.frozen h i
theorem Rdr.put0 (h : Rdr w g l f) (l' : List UInt8) : Rdr (w.setCell ⟨g, 0, none⟩ (.string (bs l'))) g l' f := Blk.set_ h 0 (.string (bs l'))
theorem Rdr.put1 (h : Rdr w g l f) (f' : Bool) : Rdr (w.setCell ⟨g, 1, none⟩ (.bool f')) g l f' := Blk.set_ h 1 (.bool f')
end

theorem open_reader (l : List UInt8) (w : World) : Calls Try.prog 57 #[.string (bs l)] w fun e w' => e = .returned (ptr w.heap.size) ∧ Rdr w' w.heap.size l true ∧ Below w.heap.size w w' := by
  go_enter Try.func57, Try.ntmps57
  go_wp2_with fail
  go_ret
  exact ⟨rfl, Blk.new w 250 _, (Below.refl _ w).alloc (Nat.le_refl _) _⟩

theorem fail_reader {g : Nat} {l : List UInt8} {f : Bool} (w : World) (h : Rdr w g l f) : Calls Try.prog 144 #[ptr g] w fun e w' => e = .returned (.tuple #[]) ∧ Rdr w' g [] false ∧ w.grownBy w' (some g) := by
  have c0 := h.c0
  have c1 := h.c1
  have f0 := h.fz 0
  have f1 := h.fz 1
  have h1 := h.put1 false
  have g0 := h1.c0
  have e0 := h1.fz 0
  have h2 := h1.put0 []
  have H2 := Lib.hid h2
  have hg := gb_setCell (gb_setCell (gb_refl w (some g)) (p := ⟨g, 1, none⟩) (Or.inl rfl) (.bool false)) (p := ⟨g, 0, none⟩) (Or.inl rfl) (.string (bs []))
  have HG := Lib.hid hg
  clear h1 h2 h hg
  go_enter Try.func144, Try.ntmps144
  go_wp2_with fail
  go_end0
  exact ⟨rfl, H2.out, HG.out⟩

theorem fine_reader {g : Nat} {l : List UInt8} {f : Bool} (w : World) (h : Rdr w g l f) : Calls Try.prog 64 #[ptr g] w fun e w' => e = .returned (.bool f) ∧ w = w' := by
  have c1 := h.c1
  clear h
  go_enter Try.func64, Try.ntmps64
  go_wp2_with fail
  go_ret
  exact ⟨rfl, rfl⟩

theorem over_reader {g : Nat} {l : List UInt8} {f : Bool} (w : World) (h : Rdr w g l f) : Calls Try.prog 65 #[ptr g] w fun e w' => e = .returned (.bool (f && l.isEmpty)) ∧ w = w' := by
  have c0 := h.c0
  go_enter Try.func65, Try.ntmps65
  go_wp2_with fail
  refine (fine_reader w h).mono ?_
  rintro e w1 ⟨rfl, rfl⟩
  cases f
  all_goals go_wp2_with fail
  all_goals go_ret
  · exact ⟨rfl, rfl⟩
  · refine ⟨?_, rfl⟩
    rw [Lib.toList_data]
    rfl

/-- Blocks a and b are what a 'next' leads by: how many bytes were told; the reader. -/
theorem told_byte {g a b : Nat} {l : List UInt8} {k : Nat} (w : World) (h : Rdr w g l true) (ha : Blk w a 3 #[.int .i64 (k : Int)]) (hb : Blk w b 98 #[ptr g]) (hk : k < l.length) (hl : l.length ≤ 9223372036854775000) :
    Calls Try.prog 206 #[ptr a, ptr b] w fun e w' => e = .returned (.tuple #[.int .u8 (l[k].toNat : Int), .bool true]) ∧ w' = (w.setCell ⟨a, 0, none⟩ (.int .i64 ((k : Int) + 1))).drew.drew := by
  have c0 := h.c0
  have ca : w.cell? ⟨a, 0, none⟩ = some (.int .i64 (k : Int)) := ha.cell 0
  have cb : w.cell? ⟨b, 0, none⟩ = some (ptr g) := hb.cell 0
  have hab : a ≠ b := ha.ne_ hb (by decide)
  have hag : a ≠ g := ha.ne_ h (by decide)
  have fa : w.frozen? ⟨a, 0, none⟩ = false := ha.frozen 0
  have ha2 := ha.set_ 0 (.int .i64 ((k : Int) + 1))
  have d0 : (w.setCell ⟨a, 0, none⟩ (.int .i64 ((k : Int) + 1))).cell? ⟨g, 0, none⟩ = some (.string (bs l)) := Rdr.c0 (Blk.far h (p := ⟨a, 0, none⟩) hag.symm _)
  have da : (w.setCell ⟨a, 0, none⟩ (.int .i64 ((k : Int) + 1))).cell? ⟨a, 0, none⟩ = some (.int .i64 ((k : Int) + 1)) := ha2.cell 0
  have db : (w.setCell ⟨a, 0, none⟩ (.int .i64 ((k : Int) + 1))).cell? ⟨b, 0, none⟩ = some (ptr g) := (hb.far (p := ⟨a, 0, none⟩) hab.symm _).cell 0
  clear h ha hb ha2 hab hag
  have hs := bs_size l
  have hge : (bs l)[k]'(by omega) = l[k] := by show l.toArray[k] = _; simp
  go_enter Try.func206, Try.ntmps206
  go_wp2_with fail
  go_region
  go_wp2_with fail
  go_region
  go_wp2_with fail
  go_ret2
  exact ⟨rfl, rfl⟩

theorem told_none {g a b : Nat} {l : List UInt8} (w : World) (h : Rdr w g l true) (ha : Blk w a 3 #[.int .i64 (l.length : Int)]) (hb : Blk w b 98 #[ptr g]) :
    Calls Try.prog 206 #[ptr a, ptr b] w fun e w' => e = .returned (.tuple #[.int .u8 0, .bool false]) ∧ w' = w.drew := by
  have c0 := h.c0
  have ca : w.cell? ⟨a, 0, none⟩ = some (.int .i64 (l.length : Int)) := ha.cell 0
  have cb : w.cell? ⟨b, 0, none⟩ = some (ptr g) := hb.cell 0
  clear h ha hb
  have hs := bs_size l
  go_enter Try.func206, Try.ntmps206
  go_wp2_with fail
  go_region
  go_wp2_with fail
  go_ret2
  exact ⟨rfl, rfl⟩
end Go.Proofs.Ytfnmpdohpbcegaa
