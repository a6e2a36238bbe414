/- Arguments that came in, opened: slices of what lies in cells. -/
import Derived.Test.YtfnmpdohpbcegaaPut
import Derived.SliceStrings
import Derived.Deep.Slices
import Derived.OpenShut
namespace Go.Proofs.Ytfnmpdohpbcegaa
open Go Go.RowKit Go.ChangeShapes Go.WideShapes Go.Deep

section
variable {H : Type} {enc : TypeId × Value → H} {P : Program} {W : World} {base : Nat} {spare : Nat → Bool} {held : Bool}
/-- Cells that read as a type. -/
def Tr (enc : TypeId × Value → H) (P : Program) (W : World) (base : Nat) (spare : Nat → Bool) (held : Bool) (t : TypeId) (cs : List Value) : Prop := ∃ n y, DataW.trod enc P W base spare held n t cs = some y
theorem Tr.int_ {t : TypeId} {cs : List Value} {k : IntKind} (h : Tr enc P W base spare held t cs) (ht : P.underlying t = some (.int k)) : ∃ n, cs = [.int k n] ∧ (Lit.int k n).wf = true := by
  obtain ⟨n, y, h⟩ := h
  obtain ⟨m, h1, _, h2⟩ := DataW.trod_int ht h
  exact ⟨m, h1, h2⟩
theorem Tr.bool_ {t : TypeId} {cs : List Value} (h : Tr enc P W base spare held t cs) (ht : P.underlying t = some .bool) : ∃ b, cs = [.bool b] := by
  obtain ⟨n, y, h⟩ := h
  obtain ⟨m, h1, _⟩ := DataW.trod_bool ht h
  exact ⟨m, h1⟩
theorem Tr.string_ {t : TypeId} {cs : List Value} (h : Tr enc P W base spare held t cs) (ht : P.underlying t = some .string) : ∃ l : List UInt8, cs = [.string (bs l)] := by
  obtain ⟨n, y, h⟩ := h
  obtain ⟨s, h1, _, h2⟩ := DataW.trod_string ht h
  refine ⟨s.data.toList, h1.trans ?_⟩
  cases s
  simp [bs]
theorem Tr.struct_ {t : TypeId} {cs : List Value} {fs : Array Field} (h : Tr enc P W base spare held t cs) (ht : P.underlying t = some (.struct fs)) (i : Nat) (f : Field) (hf : fs[i]? = some f) :
    Tr enc P W base spare held f.type ((cs.drop f.offset).take (P.cellsOf f.type)) := by
  obtain ⟨n, y, h⟩ := h
  obtain ⟨xs, m, _, _, _, hl, hx⟩ := DataW.trod_struct ht h
  have h1 := hx i f hf
  have hi : i < xs.length := by rw [hl]; exact (Array.getElem?_eq_some_iff.1 hf).1
  rw [List.getElem?_eq_getElem hi] at h1
  exact ⟨m, _, h1⟩
theorem Tr.field {t : TypeId} {cs : List Value} {fs : Array Field} (h : Tr enc P W base spare held t cs) (ht : P.underlying t = some (.struct fs)) (i ty off c : Nat) (hf : (fs[i]?).map (fun f => (f.type, f.offset)) = some (ty, off)) (hc : P.cellsOf ty = c) :
    Tr enc P W base spare held ty ((cs.drop off).take c) := by
  cases hg : fs[i]? with
  | none => simp [hg] at hf
  | some f =>
    simp [hg] at hf
    obtain ⟨h1, h2⟩ := hf
    have := h.struct_ ht i f hg
    rwa [h1, h2, hc] at this
theorem Tr.array_ {t e : TypeId} {cs : List Value} {n : Nat} (h : Tr enc P W base spare held t cs) (ht : P.underlying t = some (.array n e)) (i : Nat) (hi : i < n) :
    Tr enc P W base spare held e ((cs.drop (i * P.cellsOf e)).take (P.cellsOf e)) := by
  obtain ⟨_, y, h⟩ := h
  obtain ⟨xs, m, _, _, _, hl, hx⟩ := DataW.trod_array ht h
  have h1 := hx i hi
  rw [List.getElem?_eq_getElem (by omega)] at h1
  exact ⟨m, _, h1⟩
theorem chunk_at {α : Type} (C : Nat → List α) (s len : Nat) (h : ∀ i, i < len → (C i).length = s) (j : Nat) (u : α) (hu : ((List.range len).flatMap C)[j]? = some u) : ∃ i, i < len ∧ i * s ≤ j ∧ j < i * s + s ∧ (C i)[j - i * s]? = some u := by
  induction len generalizing j with
  | zero => simp at hu
  | succ len ih =>
    have hlen : ((List.range len).flatMap C).length = len * s := by
      clear ih hu
      induction len with
      | zero => simp
      | succ len ih2 =>
        rw [List.range_succ, List.flatMap_append, List.length_append, ih2 (fun i hi => h i (by omega)), List.flatMap_cons, List.flatMap_nil, List.append_nil, h len (by omega), Nat.add_mul, Nat.one_mul]
    rw [List.range_succ, List.flatMap_append, List.flatMap_cons, List.flatMap_nil, List.append_nil] at hu
    rcases Nat.lt_or_ge j (len * s) with hj | hj
    · rw [List.getElem?_append_left (by omega)] at hu
      obtain ⟨i, h1, h2⟩ := ih (fun i hi => h i (by omega)) j hu
      exact ⟨i, by omega, h2⟩
    · rw [List.getElem?_append_right (by omega), hlen] at hu
      have := (List.getElem?_eq_some_iff.1 hu).1
      have h3 := h len (by omega)
      exact ⟨len, by omega, hj, by omega, hu⟩
/-- A slice that came in reads as its elements' cells. -/
theorem open_rows {t e : TypeId} {a : Option Addr} {len cap : Nat} {d : DataW H} {ps : List MemPlace} (s : Nat) (ht : P.underlying t = some (.slice e)) (hc : P.cellsOf e = s) (hs : 0 < s) (h : DataW.Trod enc P W base spare held t (.slice a len cap) d ps) :
    ∃ C : Nat → List Value, (∀ i, i < len → (C i).length = s ∧ Tr enc P W base spare held e (C i)) ∧ Reads W W.heap.size s a len ((List.range len).flatMap C) ∧ len ≤ cap ∧ cap ≤ maxLen := by
  obtain ⟨fuel, hf⟩ := h
  rcases open_slice ht hf with ⟨hcs, _⟩ | ⟨x, l, c, m, n, D, Pl, hcs, _, hl, hm, hmm, _, hi⟩
  · simp [Value.cells] at hcs
    obtain ⟨rfl, rfl, rfl⟩ := hcs
    exact ⟨fun _ => [], fun i hi => absurd hi (by omega), by simpa using Reads.none_, Nat.le_refl _, Nat.zero_le _⟩
  · simp [Value.cells] at hcs
    obtain ⟨rfl, rfl, rfl⟩ := hcs
    have hlm : len ≤ m := by rw [hmm]; split <;> omega
    have hex : ∀ i, i < len → ∃ cs', W.cells? base (x.add (i * s)) s = some cs' ∧ DataW.trod enc P W base spare held n e cs' = some (D i, Pl i) := fun i h => by
      have := hi i (by omega)
      rwa [hc] at this
    obtain ⟨C, hC⟩ : ∃ C : Nat → List Value, ∀ i, i < len → W.cells? base (x.add (i * s)) s = some (C i) ∧ DataW.trod enc P W base spare held n e (C i) = some (D i, Pl i) :=
      ⟨fun i => if h : i < len then Classical.choose (hex i h) else [], fun i h => by simp only [h, dite_true]; exact Classical.choose_spec (hex i h)⟩
    have hlen : ∀ i, i < len → (C i).length = s := fun i h => (World.cells?_some (hC i h).1).2.1
    refine ⟨C, fun i h => ⟨hlen i h, n, _, (hC i h).2⟩, ⟨?_, fun h0 => ⟨x, rfl, ?_, fun j u hu => ?_⟩⟩, hl, hm⟩
    · have : ∀ k, k ≤ len → ((List.range k).flatMap C).length = k * s := by
        intro k
        induction k with
        | zero => simp
        | succ k ih => intro hk; rw [List.range_succ, List.flatMap_append, List.length_append, ih (by omega), List.flatMap_cons, List.flatMap_nil, List.append_nil, hlen k (by omega), Nat.add_mul, Nat.one_mul]
      exact this len (Nat.le_refl _)
    · obtain ⟨_, h2, h3⟩ := World.cells?_some (hC 0 h0).1
      have h4 := h3 0 hs
      rw [List.getElem?_eq_getElem (by omega)] at h4
      have := World.block_lt_of_cell? W _ h4
      rwa [block_of_add, block_of_add] at this
    · obtain ⟨i, h1, h2, h3, h4⟩ := chunk_at C s len hlen j u hu
      obtain ⟨_, _, h6⟩ := World.cells?_some (hC i h1).1
      have h7 := h6 (j - i * s) (by omega)
      rw [add_of_add, show i * s + (j - i * s) = j by omega, h4] at h7
      exact h7
/-- Chunks that are things' cells, as a list of things. -/
theorem chunks {α : Type} (f : α → List Value) (p : α → Prop) (C : Nat → List Value) (len : Nat) (h : ∀ i, i < len → ∃ x, p x ∧ C i = f x) : ∃ l : List α, l.length = len ∧ (∀ x ∈ l, p x) ∧ (List.range len).flatMap C = l.flatMap f := by
  induction len with
  | zero => exact ⟨[], rfl, by simp, by simp⟩
  | succ len ih =>
    obtain ⟨l, h1, h2, h3⟩ := ih fun i hi => h i (by omega)
    obtain ⟨x, h4, h5⟩ := h len (by omega)
    refine ⟨l ++ [x], by simp [h1], fun y hy => ?_, ?_⟩
    · rcases List.mem_append.1 hy with hy | hy
      · exact h2 y hy
      · obtain rfl : y = x := by simpa using hy
        exact h4
    · rw [List.range_succ, List.flatMap_append, List.flatMap_append, h3, List.flatMap_cons, List.flatMap_nil, h5]
      simp
theorem nat_of_wf {k : IntKind} {n : Int} (h : (Lit.int k n).wf = true) (hk : k.min = 0) : ∃ m : Nat, n = (m : Int) := by
  simp [Lit.wf] at h
  exact ⟨n.toNat, by omega⟩
/-- A slice of bytes that came in. -/
theorem reads_bytes {t e : TypeId} {a : Option Addr} {len cap : Nat} {d : DataW H} {ps : List MemPlace} (ht : P.underlying t = some (.slice e)) (he : P.underlying e = some (.int .u8)) (hc : P.cellsOf e = 1) (h : DataW.Trod enc P W base spare held t (.slice a len cap) d ps) :
    ∃ l : List UInt8, l.length = len ∧ Reads W W.heap.size 1 a len (byteCells l) ∧ len ≤ maxLen := by
  obtain ⟨C, hC, hr, h1, h2⟩ := open_rows 1 ht hc (by omega) h
  obtain ⟨l, hl, _, hf⟩ := chunks (fun b : UInt8 => [Value.int .u8 (b.toNat : Int)]) (fun _ => True) C len fun i hi => by
    obtain ⟨n, hn, hw⟩ := (hC i hi).2.int_ he
    have hb := bounds_u8 hw
    exact ⟨UInt8.ofNat n.toNat, trivial, by rw [hn]; congr 2; rw [UInt8.toNat_ofNat']; omega⟩
  refine ⟨l, hl, ?_, by omega⟩
  rw [hf] at hr
  have : ∀ l : List UInt8, l.flatMap (fun b : UInt8 => [Value.int .u8 (b.toNat : Int)]) = byteCells l := by
    intro l
    unfold byteCells
    induction l with
    | nil => rfl
    | cons x l ih => simp [ih]
  rwa [this] at hr
end
end Go.Proofs.Ytfnmpdohpbcegaa
