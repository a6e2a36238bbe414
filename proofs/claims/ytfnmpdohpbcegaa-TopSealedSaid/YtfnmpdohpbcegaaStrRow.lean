/- A slice of strings that came in: as 'Reads'. -/
import Derived.Test.YtfnmpdohpbcegaaScan
import Derived.Test.YtfnmpdohpbcegaaPut
import Derived.SliceStrings
namespace Go.Proofs.Ytfnmpdohpbcegaa
open Go Go.RowKit Go.ChangeShapes Go.WideShapes

theorem reads_strings {H : Type} {enc : TypeId × Value → H} {P : Program} {W : World} {base : Nat} {spare : Nat → Bool} {held : Bool} {t e : TypeId} {a : Option Addr} {len cap : Nat} {d : DataW H} {ps : List MemPlace}
    (ht : P.underlying t = some (.slice e)) (he : P.underlying e = some .string) (hc : P.cellsOf e = 1) (h : DataW.Trod enc P W base spare held t (.slice a len cap) d ps) :
    ∃ l : List (List UInt8), l.length = len ∧ Reads W W.heap.size 1 a len (strs l) ∧ len ≤ maxLen := by
  obtain ⟨fuel, hf⟩ := h
  rcases open_strings ht he hc hf with ⟨hcs, _⟩ | ⟨x, n, c, ss, hcs, _, hl, hm, hz, _, hcell, _⟩
  · simp [Value.cells] at hcs
    obtain ⟨rfl, rfl, rfl⟩ := hcs
    exact ⟨[], rfl, Reads.none_, Nat.zero_le _⟩
  · simp [Value.cells] at hcs
    obtain ⟨rfl, rfl, rfl⟩ := hcs
    have hn : len ≤ ss.length := by rw [hz]; split <;> omega
    have he2 : Ytfnmpdohpbcegaa.strs ((ss.take len).map fun s => s.data.toList) = (ss.take len).map Value.string := by
      unfold Ytfnmpdohpbcegaa.strs
      rw [List.map_map]
      refine List.map_congr_left fun s _ => ?_
      cases s
      simp [bs]
    refine ⟨(ss.take len).map fun s => s.data.toList, by simp; omega, ⟨by rw [he2]; simp; omega, fun h0 => ⟨x, rfl, ?_, fun j u hu => ?_⟩⟩, by omega⟩
    · have := World.block_lt_of_cell? W _ (hcell 0 (by omega))
      rwa [block_of_add] at this
    · rw [he2] at hu
      simp only [List.getElem?_map, Option.map_eq_some_iff] at hu
      obtain ⟨s, hs, rfl⟩ := hu
      have hj : j < len := by have := (List.getElem?_eq_some_iff.1 hs).1; simp at this; omega
      rw [hcell j (by omega)]
      rw [List.getElem?_take_of_lt hj] at hs
      simp [List.getD, hs]
end Go.Proofs.Ytfnmpdohpbcegaa
