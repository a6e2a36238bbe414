/-
  No cell of these rows narrows 'for every input' (looked for: loops, veiled, ifaces, maps, wideKeys, modest, calm, conditions, laid).
  DERIVED. THE GIVEN ROWS OF THIS SEAT. 8 by the template 'for every input the law returns true; each argument reads behind the call as it read before'; 0 by the template 'total and deterministic' (their statements: YtfnmpdohpbcegaaTotals.lean).
  GIVEN WITH THE SEED: the statements are not yours to turn. If you find one false, say at which input.
  Laid BY PROGRAM, IN A SANDBOX (cutbox-rows.mjs): the forced cells as the released guide's own fill.sh prints them over the translation 248606ab61b97ce0… (all of the seat's roots in one cut). By AI agents, Wed Nov 11 2026. No macro, syntax, notation, axiom, sorry.
-/
import Derived.Test.YtfnmpdohpbcegaaChecked
import GoSem.Claim
import GoSem.ClaimJoined
import GoSem.ClaimMapViews
import Derived.JoinedTies
import Derived.KernelRfl
namespace Go.Proofs.Ytfnmpdohpbcegaa
/- THE CELL 'sum', in the pinned program and in every row, IS THE sha256 OF THE DUMP (.gsa) THAT YtfnmpdohpbcegaaProg.lean LOADS. Nothing in Lean hashes anything: it is a label: what it is worth is what the hold of that sum in a sandbox is worth. -/
noncomputable def Try.pinned : Pinned := { name := "ytfnmpdohpbcegaa", sum := "248606ab61b97ce0389af6f2bea63edd46bfb954c78fb2db07fbdc0fbc44b02f", checked := Try.checked }
namespace Rows
def none {H : Type} : Left H := { results := [], args := [] }

/-- 'forebaytop.TopCounts': WHATEVER THE INPUT: true; the input reads as it did. -/
def topCountsSpec : ChangeSpec := { name := "topCounts", fn := fun _ => fun
  | [d1, d2, d3, d4] => { results := [.lit (.bool true)], args := [d1, d2, d3, d4] }
  | _ => none }
def topCountsRow : OpenClaim := { program := "ytfnmpdohpbcegaa", sum := "248606ab61b97ce0389af6f2bea63edd46bfb954c78fb2db07fbdc0fbc44b02f", func := "forebay/forebaytop.TopCounts", spec := "topCounts", unfollowed := true, recurses := true, apart := false }
def TopCountsSaid : Prop := topCountsRow.holds Try.pinned (OpenSpec.ofChange topCountsSpec)

/-- ITS FALSE NEIGHBOUR: 'it returns false'. Refute it at one input. -/
def topCountsWrong : ChangeSpec := { name := "topCounts", fn := fun _ => fun
  | [d1, d2, d3, d4] => { results := [.lit (.bool false)], args := [d1, d2, d3, d4] }
  | _ => none }
def TopCountsWrongFalsely : Prop := topCountsRow.holds Try.pinned (OpenSpec.ofChange topCountsWrong)

/-- 'forebaytop.TopSealed': WHATEVER THE INPUT: true; the input reads as it did. -/
def topSealedSpec : ChangeSpec := { name := "topSealed", fn := fun _ => fun
  | [d1, d2, d3, d4] => { results := [.lit (.bool true)], args := [d1, d2, d3, d4] }
  | _ => none }
def topSealedRow : OpenClaim := { program := "ytfnmpdohpbcegaa", sum := "248606ab61b97ce0389af6f2bea63edd46bfb954c78fb2db07fbdc0fbc44b02f", func := "forebay/forebaytop.TopSealed", spec := "topSealed", unfollowed := true, recurses := true, apart := false }
def TopSealedSaid : Prop := topSealedRow.holds Try.pinned (OpenSpec.ofChange topSealedSpec)

/-- ITS FALSE NEIGHBOUR: 'it returns false'. Refute it at one input. -/
def topSealedWrong : ChangeSpec := { name := "topSealed", fn := fun _ => fun
  | [d1, d2, d3, d4] => { results := [.lit (.bool false)], args := [d1, d2, d3, d4] }
  | _ => none }
def TopSealedWrongFalsely : Prop := topSealedRow.holds Try.pinned (OpenSpec.ofChange topSealedWrong)

/-- 'forebaytop.TopPacked': WHATEVER THE INPUT: true; the input reads as it did. -/
def topPackedSpec : ChangeSpec := { name := "topPacked", fn := fun _ => fun
  | [d1, d2, d3, d4] => { results := [.lit (.bool true)], args := [d1, d2, d3, d4] }
  | _ => none }
def topPackedRow : OpenClaim := { program := "ytfnmpdohpbcegaa", sum := "248606ab61b97ce0389af6f2bea63edd46bfb954c78fb2db07fbdc0fbc44b02f", func := "forebay/forebaytop.TopPacked", spec := "topPacked", unfollowed := true, recurses := true, apart := false }
def TopPackedSaid : Prop := topPackedRow.holds Try.pinned (OpenSpec.ofChange topPackedSpec)

/-- ITS FALSE NEIGHBOUR: 'it returns false'. Refute it at one input. -/
def topPackedWrong : ChangeSpec := { name := "topPacked", fn := fun _ => fun
  | [d1, d2, d3, d4] => { results := [.lit (.bool false)], args := [d1, d2, d3, d4] }
  | _ => none }
def TopPackedWrongFalsely : Prop := topPackedRow.holds Try.pinned (OpenSpec.ofChange topPackedWrong)

/-- 'forebaytop.TopNodes': WHATEVER THE INPUT: true; the input reads as it did. -/
def topNodesSpec : ChangeSpec := { name := "topNodes", fn := fun _ => fun
  | [d1, d2, d3, d4, d5] => { results := [.lit (.bool true)], args := [d1, d2, d3, d4, d5] }
  | _ => none }
def topNodesRow : OpenClaim := { program := "ytfnmpdohpbcegaa", sum := "248606ab61b97ce0389af6f2bea63edd46bfb954c78fb2db07fbdc0fbc44b02f", func := "forebay/forebaytop.TopNodes", spec := "topNodes", unfollowed := true, recurses := true, apart := false }
def TopNodesSaid : Prop := topNodesRow.holds Try.pinned (OpenSpec.ofChange topNodesSpec)

/-- ITS FALSE NEIGHBOUR: 'it returns false'. Refute it at one input. -/
def topNodesWrong : ChangeSpec := { name := "topNodes", fn := fun _ => fun
  | [d1, d2, d3, d4, d5] => { results := [.lit (.bool false)], args := [d1, d2, d3, d4, d5] }
  | _ => none }
def TopNodesWrongFalsely : Prop := topNodesRow.holds Try.pinned (OpenSpec.ofChange topNodesWrong)

/-- 'forebaytop.TopFits': WHATEVER THE INPUT: true; the input reads as it did. -/
def topFitsSpec : ChangeSpec := { name := "topFits", fn := fun _ => fun
  | [d1, d2, d3, d4] => { results := [.lit (.bool true)], args := [d1, d2, d3, d4] }
  | _ => none }
def topFitsRow : OpenClaim := { program := "ytfnmpdohpbcegaa", sum := "248606ab61b97ce0389af6f2bea63edd46bfb954c78fb2db07fbdc0fbc44b02f", func := "forebay/forebaytop.TopFits", spec := "topFits", unfollowed := true, recurses := true, apart := false }
def TopFitsSaid : Prop := topFitsRow.holds Try.pinned (OpenSpec.ofChange topFitsSpec)

/-- ITS FALSE NEIGHBOUR: 'it returns false'. Refute it at one input. -/
def topFitsWrong : ChangeSpec := { name := "topFits", fn := fun _ => fun
  | [d1, d2, d3, d4] => { results := [.lit (.bool false)], args := [d1, d2, d3, d4] }
  | _ => none }
def TopFitsWrongFalsely : Prop := topFitsRow.holds Try.pinned (OpenSpec.ofChange topFitsWrong)

/-- 'forebaytop.TopShares': WHATEVER THE INPUT: true; the input reads as it did. -/
def topSharesSpec : ChangeSpec := { name := "topShares", fn := fun _ => fun
  | [d1, d2, d3, d4, d5, d6] => { results := [.lit (.bool true)], args := [d1, d2, d3, d4, d5, d6] }
  | _ => none }
def topSharesRow : OpenClaim := { program := "ytfnmpdohpbcegaa", sum := "248606ab61b97ce0389af6f2bea63edd46bfb954c78fb2db07fbdc0fbc44b02f", func := "forebay/forebaytop.TopShares", spec := "topShares", inPlace := ["internal/bytealg.abigen_runtime_cmpstring", "slices.overlaps[forebay/api.Share]"], unfollowed := true, recurses := true, apart := false }
def TopSharesSaid : Prop := topSharesRow.holds Try.pinned (OpenSpec.ofChange topSharesSpec)

/-- ITS FALSE NEIGHBOUR: 'it returns false'. Refute it at one input. -/
def topSharesWrong : ChangeSpec := { name := "topShares", fn := fun _ => fun
  | [d1, d2, d3, d4, d5, d6] => { results := [.lit (.bool false)], args := [d1, d2, d3, d4, d5, d6] }
  | _ => none }
def TopSharesWrongFalsely : Prop := topSharesRow.holds Try.pinned (OpenSpec.ofChange topSharesWrong)

/-- 'forebaytop.TopRanges': WHATEVER THE INPUT: true; the input reads as it did. -/
def topRangesSpec : ChangeSpec := { name := "topRanges", fn := fun _ => fun
  | [d1, d2, d3, d4, d5] => { results := [.lit (.bool true)], args := [d1, d2, d3, d4, d5] }
  | _ => none }
def topRangesRow : OpenClaim := { program := "ytfnmpdohpbcegaa", sum := "248606ab61b97ce0389af6f2bea63edd46bfb954c78fb2db07fbdc0fbc44b02f", func := "forebay/forebaytop.TopRanges", spec := "topRanges", unfollowed := true, recurses := true, apart := false }
def TopRangesSaid : Prop := topRangesRow.holds Try.pinned (OpenSpec.ofChange topRangesSpec)

/-- ITS FALSE NEIGHBOUR: 'it returns false'. Refute it at one input. -/
def topRangesWrong : ChangeSpec := { name := "topRanges", fn := fun _ => fun
  | [d1, d2, d3, d4, d5] => { results := [.lit (.bool false)], args := [d1, d2, d3, d4, d5] }
  | _ => none }
def TopRangesWrongFalsely : Prop := topRangesRow.holds Try.pinned (OpenSpec.ofChange topRangesWrong)

/-- 'forebaytop.TopPools': WHATEVER THE INPUT: true; the input reads as it did. -/
def topPoolsSpec : ChangeSpec := { name := "topPools", fn := fun _ => fun
  | [d1, d2, d3, d4, d5] => { results := [.lit (.bool true)], args := [d1, d2, d3, d4, d5] }
  | _ => none }
def topPoolsRow : OpenClaim := { program := "ytfnmpdohpbcegaa", sum := "248606ab61b97ce0389af6f2bea63edd46bfb954c78fb2db07fbdc0fbc44b02f", func := "forebay/forebaytop.TopPools", spec := "topPools", inPlace := ["internal/bytealg.abigen_runtime_cmpstring", "slices.overlaps[forebay/api.Use]"], unfollowed := true, recurses := true, apart := false }
def TopPoolsSaid : Prop := topPoolsRow.holds Try.pinned (OpenSpec.ofChange topPoolsSpec)

/-- ITS FALSE NEIGHBOUR: 'it returns false'. Refute it at one input. -/
def topPoolsWrong : ChangeSpec := { name := "topPools", fn := fun _ => fun
  | [d1, d2, d3, d4, d5] => { results := [.lit (.bool false)], args := [d1, d2, d3, d4, d5] }
  | _ => none }
def TopPoolsWrongFalsely : Prop := topPoolsRow.holds Try.pinned (OpenSpec.ofChange topPoolsWrong)

/- THE SECOND FORM. 'bulk': how many values and letters a reading holds, each counted each time it is reached (what is shared counts as often as it is met; a slice's spare places count too). A statement '..UptoSaid' is the law's where the arguments, and the package variables that the reading takes, are together of bulk at most 1048576: NARROWER than '..Said'. Prove '..Said' where nothing that the law and all that it calls make is longer than what came in: it says more and counts as full. Else prove '..UptoSaid'. A law counts once. -/
mutual
def uptoBulk {H : Type} : DataW H → Nat
  | .lit (.string bytes) => bytes.length + 1
  | .lit _ => 1
  | .nil => 1
  | .ptr d => uptoBulk d + 1
  | .slice elems spare => uptoBulkAll elems + uptoBulkAll spare + 1
  | .agg parts => uptoBulkAll parts + 1
  | .iface _ d => uptoBulk d + 1
  | .map entries => uptoBulkEntries entries + 1
  | .held _ => 1
def uptoBulkAll {H : Type} : List (DataW H) → Nat
  | [] => 0
  | d :: r => uptoBulk d + uptoBulkAll r
def uptoBulkEntries {H : Type} : List (Lit × DataW H) → Nat
  | [] => 0
  | x :: r => uptoBulkEntry x + uptoBulkEntries r
def uptoBulkEntry {H : Type} : Lit × DataW H → Nat
  | (.string bytes, d) => bytes.length + uptoBulk d + 1
  | (_, d) => uptoBulk d + 1
 end
def uptoSmall : (H : Type) → List (DataW H) → Bool := fun _ ds => decide (uptoBulkAll ds ≤ 1048576)
def OpenSpec.upto (s : _root_.Go.ChangeSpec) : _root_.Go.OpenSpec := { _root_.Go.OpenSpec.ofChange s with cond := some uptoSmall }

/-- 'forebaytop.TopCounts', WHERE WHAT IT READS IS OF BULK AT MOST 1048576: true; the input reads as it did. -/
def topCountsUptoRow : OpenClaim := { program := "ytfnmpdohpbcegaa", sum := "248606ab61b97ce0389af6f2bea63edd46bfb954c78fb2db07fbdc0fbc44b02f", func := "forebay/forebaytop.TopCounts", spec := "topCounts", unfollowed := true, recurses := true, apart := false, narrowed := true }
def TopCountsUptoSaid : Prop := topCountsUptoRow.holds Try.pinned (OpenSpec.upto topCountsSpec)

/-- 'forebaytop.TopSealed', WHERE WHAT IT READS IS OF BULK AT MOST 1048576: true; the input reads as it did. -/
def topSealedUptoRow : OpenClaim := { program := "ytfnmpdohpbcegaa", sum := "248606ab61b97ce0389af6f2bea63edd46bfb954c78fb2db07fbdc0fbc44b02f", func := "forebay/forebaytop.TopSealed", spec := "topSealed", unfollowed := true, recurses := true, apart := false, narrowed := true }
def TopSealedUptoSaid : Prop := topSealedUptoRow.holds Try.pinned (OpenSpec.upto topSealedSpec)

/-- 'forebaytop.TopPacked', WHERE WHAT IT READS IS OF BULK AT MOST 1048576: true; the input reads as it did. -/
def topPackedUptoRow : OpenClaim := { program := "ytfnmpdohpbcegaa", sum := "248606ab61b97ce0389af6f2bea63edd46bfb954c78fb2db07fbdc0fbc44b02f", func := "forebay/forebaytop.TopPacked", spec := "topPacked", unfollowed := true, recurses := true, apart := false, narrowed := true }
def TopPackedUptoSaid : Prop := topPackedUptoRow.holds Try.pinned (OpenSpec.upto topPackedSpec)

/-- 'forebaytop.TopNodes', WHERE WHAT IT READS IS OF BULK AT MOST 1048576: true; the input reads as it did. -/
def topNodesUptoRow : OpenClaim := { program := "ytfnmpdohpbcegaa", sum := "248606ab61b97ce0389af6f2bea63edd46bfb954c78fb2db07fbdc0fbc44b02f", func := "forebay/forebaytop.TopNodes", spec := "topNodes", unfollowed := true, recurses := true, apart := false, narrowed := true }
def TopNodesUptoSaid : Prop := topNodesUptoRow.holds Try.pinned (OpenSpec.upto topNodesSpec)

/-- 'forebaytop.TopFits', WHERE WHAT IT READS IS OF BULK AT MOST 1048576: true; the input reads as it did. -/
def topFitsUptoRow : OpenClaim := { program := "ytfnmpdohpbcegaa", sum := "248606ab61b97ce0389af6f2bea63edd46bfb954c78fb2db07fbdc0fbc44b02f", func := "forebay/forebaytop.TopFits", spec := "topFits", unfollowed := true, recurses := true, apart := false, narrowed := true }
def TopFitsUptoSaid : Prop := topFitsUptoRow.holds Try.pinned (OpenSpec.upto topFitsSpec)

/-- 'forebaytop.TopShares', WHERE WHAT IT READS IS OF BULK AT MOST 1048576: true; the input reads as it did. -/
def topSharesUptoRow : OpenClaim := { program := "ytfnmpdohpbcegaa", sum := "248606ab61b97ce0389af6f2bea63edd46bfb954c78fb2db07fbdc0fbc44b02f", func := "forebay/forebaytop.TopShares", spec := "topShares", inPlace := ["internal/bytealg.abigen_runtime_cmpstring", "slices.overlaps[forebay/api.Share]"], unfollowed := true, recurses := true, apart := false, narrowed := true }
def TopSharesUptoSaid : Prop := topSharesUptoRow.holds Try.pinned (OpenSpec.upto topSharesSpec)

/-- 'forebaytop.TopRanges', WHERE WHAT IT READS IS OF BULK AT MOST 1048576: true; the input reads as it did. -/
def topRangesUptoRow : OpenClaim := { program := "ytfnmpdohpbcegaa", sum := "248606ab61b97ce0389af6f2bea63edd46bfb954c78fb2db07fbdc0fbc44b02f", func := "forebay/forebaytop.TopRanges", spec := "topRanges", unfollowed := true, recurses := true, apart := false, narrowed := true }
def TopRangesUptoSaid : Prop := topRangesUptoRow.holds Try.pinned (OpenSpec.upto topRangesSpec)

/-- 'forebaytop.TopPools', WHERE WHAT IT READS IS OF BULK AT MOST 1048576: true; the input reads as it did. -/
def topPoolsUptoRow : OpenClaim := { program := "ytfnmpdohpbcegaa", sum := "248606ab61b97ce0389af6f2bea63edd46bfb954c78fb2db07fbdc0fbc44b02f", func := "forebay/forebaytop.TopPools", spec := "topPools", inPlace := ["internal/bytealg.abigen_runtime_cmpstring", "slices.overlaps[forebay/api.Use]"], unfollowed := true, recurses := true, apart := false, narrowed := true }
def TopPoolsUptoSaid : Prop := topPoolsUptoRow.holds Try.pinned (OpenSpec.upto topPoolsSpec)

end Rows
end Go.Proofs.Ytfnmpdohpbcegaa
