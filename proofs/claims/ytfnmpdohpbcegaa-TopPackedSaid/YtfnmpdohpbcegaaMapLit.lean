/- A map that is written down, ranged over. -/
import Derived.Test.YtfnmpdohpbcegaaPacks
import Derived.Maps.RangeWalk
import Derived.Maps.StringElems
namespace Go.Proofs.Ytfnmpdohpbcegaa
open Go Go.RowKit Go.ChangeShapes
open Go.Maps (Keyed)

/-- An entry of a map that is written down. -/
theorem wpList_insert_own {H : Type} {P : Program} (w : World) {ops : Array Oper} {rest : List Oper} {o : Oper} {a : Act} {Q : Exit → Act → World → Prop}
    (hg : o.guard = none) (m x v : Operand) (t : TypeId) (hop : o.op = Op.insert t m x v)
    (k e : TypeId) (K : Keyed P k) (ht : P.underlying t = some (.map k e)) (R : Value → Option (DataW H × List MemPlace)) (b n : Nat) (D : DataW H)
    (hm : a.eval m = .map (some b)) (hown : w.ownsMap P k R b n D) (hn : n < maxLen) (key val : Value) (kl : Lit) (hx : a.eval x = key) (hv : a.eval v = val) (hkey : keyOf P k key = some kl)
    (d : DataW H) (ps : List MemPlace) (hval : R val = some (d, ps))
    (hK : ∀ w', w'.ownsMap P k R b (n + 1) (D.put kl d) → w.grownBy w' (some b) → wpList P ops Q rest (a.put o.dst undef) w') :
    wpList P ops Q (o :: rest) a w := by
  refine wpList_plain hg fun K' hK' => ?_
  obtain ⟨w', hrun, r1, r2⟩ := hown.update K ht hn hkey hval
  unfold Oper.wp
  simp [execOp, hop, hm, hx, hv, hrun, Result.andThen]
  exact hK' _ _ (hK w' r1 r2)

def mapA : DataW Unit := ((((DataW.map []).put (.int .u64 0) (.lit (.string [0]))).put (.int .u64 127) (.lit (.string [127]))).put (.int .u64 128) (.lit (.string [128, 1]))).put (.int .u64 300) (.lit (.string [172, 2]))
def mapB : DataW Unit := ((((DataW.map []).put (.int .i64 (-1)) (.lit (.string [1]))).put (.int .i64 1) (.lit (.string [2]))).put (.int .i64 (-64)) (.lit (.string [127]))).put (.int .i64 64) (.lit (.string [128, 1]))
theorem mapA_eq : mapA = .map [(.int .u64 0, .lit (.string [0])), (.int .u64 127, .lit (.string [127])), (.int .u64 128, .lit (.string [128, 1])), (.int .u64 300, .lit (.string [172, 2]))] := by rfl
theorem mapB_eq : mapB = .map [(.int .i64 (-64), .lit (.string [127])), (.int .i64 (-1), .lit (.string [1])), (.int .i64 1, .lit (.string [2])), (.int .i64 64, .lit (.string [128, 1]))] := by rfl
theorem str_of {c : ByteArray} {l : List UInt8} (h : (DataW.lit (.string l) : DataW Unit) = .lit (.string c.data.toList)) : c = bs l := by
  injection h with h
  injection h with h
  apply ByteArray.ext
  apply Array.toList_inj.1
  rw [← h]
  simp [bs]
theorem mapA_entry {x : Int} {c : ByteArray} (h : Maps.has mapA (.int .u64 x) = true) (hat : ∀ zd : DataW Unit, mapA.atKey (.int .u64 x) zd = .lit (.string c.data.toList)) : ∃ n : Nat, x = (n : Int) ∧ n < 18446744073709551616 ∧ c = bs (numP n) := by
  have ha := hat (.map [])
  rw [mapA_eq] at h ha
  simp [Maps.has, Lit.sameKey] at h
  rcases h with rfl | rfl | rfl | rfl
  · exact ⟨0, rfl, by omega, by rw [str_of (c := c) (l := [0]) (by simpa [DataW.atKey, Lit.sameKey] using ha)]; rw [numP_small (by omega)]; rfl⟩
  · exact ⟨127, rfl, by omega, by rw [str_of (c := c) (l := [127]) (by simpa [DataW.atKey, Lit.sameKey] using ha)]; rw [numP_small (by omega)]; rfl⟩
  · exact ⟨128, rfl, by omega, by rw [str_of (c := c) (l := [128, 1]) (by simpa [DataW.atKey, Lit.sameKey] using ha)]; rw [numP_big (by omega), numP_small (by omega)]; rfl⟩
  · exact ⟨300, rfl, by omega, by rw [str_of (c := c) (l := [172, 2]) (by simpa [DataW.atKey, Lit.sameKey] using ha)]; rw [numP_big (by omega), numP_small (by omega)]; rfl⟩
theorem mapB_entry {x : Int} {c : ByteArray} (h : Maps.has mapB (.int .i64 x) = true) (hat : ∀ zd : DataW Unit, mapB.atKey (.int .i64 x) zd = .lit (.string c.data.toList)) : c = bs (numP (foldN x)) := by
  have ha := hat (.map [])
  rw [mapB_eq] at h ha
  simp [Maps.has, Lit.sameKey] at h
  rcases h with rfl | rfl | rfl | rfl
  · rw [str_of (c := c) (l := [127]) (by simpa [DataW.atKey, Lit.sameKey] using ha), show foldN (-64) = 127 by decide +kernel, numP_small (by omega)]; rfl
  · rw [str_of (c := c) (l := [1]) (by simpa [DataW.atKey, Lit.sameKey] using ha), show foldN (-1) = 1 by decide +kernel, numP_small (by omega)]; rfl
  · rw [str_of (c := c) (l := [2]) (by simpa [DataW.atKey, Lit.sameKey] using ha), show foldN 1 = 2 by decide +kernel, numP_small (by omega)]; rfl
  · rw [str_of (c := c) (l := [128, 1]) (by simpa [DataW.atKey, Lit.sameKey] using ha), show foldN 64 = 128 by decide +kernel, numP_big (by omega), numP_small (by omega)]; rfl
theorem num_nil (A' : Option Addr) (n : Nat) (w : World) (hr' : Reads w w.heap.size 1 A' 1 [.int .u64 (n : Int)]) (hn : n < 18446744073709551616) : Calls Try.prog 53 #[.slice none 0 0, .slice A' 1 1] w (RetBytes (numP n) w) := by
  have := num_one (B := 0) none 0 [] A' 1 n w (Nat.zero_le _) Reads.none_ (Nat.le_refl _) hr' (by simp) hn
  simpa using this
theorem int_nil (A' : Option Addr) (n : Int) (w : World) (hr' : Reads w w.heap.size 1 A' 1 [.int .i64 n]) : Calls Try.prog 54 #[.slice none 0 0, .slice A' 1 1] w (RetBytes (numP (foldN n)) w) := by
  have := int_any (B := 0) none 0 [] A' n w (Nat.zero_le _) Reads.none_ (Nat.le_refl _) hr' (by simp)
  simpa using this
theorem text_abc (A' : Option Addr) (w : World) (hr' : Reads w w.heap.size 1 A' 1 [.string ⟨#[97, 98, 99]⟩]) : Calls Try.prog 55 #[.slice none 0 0, .slice A' 1 1] w (RetBytes [3, 97, 98, 99] w) := by
  have := text_any (B := 0) none 0 [] A' ⟨#[97, 98, 99]⟩ w (Nat.zero_le _) Reads.none_ (Nat.le_refl _) hr' (by simp) (by decide)
  have he : [] ++ textP (⟨#[97, 98, 99]⟩ : ByteArray).data.toList = [3, 97, 98, 99] := by
    unfold textP
    rw [numP_small (by decide)]
    rfl
  rwa [he] at this
theorem flag_nil (A' : Option Addr) (w : World) (hr' : Reads w w.heap.size 1 A' 1 [.bool true]) : Calls Try.prog 56 #[.slice none 0 0, .slice A' 1 1] w (RetBytes [1] w) := by
  have := flag_any (B := 0) none 0 [] A' true w (Nat.zero_le _) Reads.none_ (Nat.le_refl _) hr' (by simp)
  have he : [] ++ numP (if true = true then 1 else 0) = [1] := by rw [if_pos rfl, numP_small (by omega)]; rfl
  rwa [he] at this
theorem reads_k (A : Option Addr) (w : World) (hr : Reads w w.heap.size 1 A 2 [.int .u8 0, .int .u8 0]) :
    Calls Try.prog 16 #[.string ⟨#[128, 0, 1]⟩, .slice A 2 2, .int .i64 9] w fun e w' => e = .returned (.tuple #[.int .i64 0, .bool true]) ∧ Below w.heap.size w w' := by
  have := reads_w [128, 0, 1] A 2 [0, 0] 2 9 w hr rfl (by simp) (by simp) (by omega)
  rwa [show runK 9 [0, 0] true [128, 0, 1] = 0 by decide +kernel] at this
def list5 : List BitP := [⟨0, 18446744073709551615, []⟩, ⟨1, 9223372036854775808, []⟩, ⟨2, 0, [97, 98]⟩, ⟨3, 1, []⟩, ⟨2, 0, []⟩]
theorem reads_5 (W : World) (t : TypeId) : Reads (W.alloc (.cells #[.int .u8 0, .int .u64 18446744073709551615, .string ⟨#[]⟩, .int .u8 1, .int .u64 9223372036854775808, .string ⟨#[]⟩, .int .u8 2, .int .u64 0, .string ⟨#[97, 98]⟩, .int .u8 3, .int .u64 1, .string ⟨#[]⟩, .int .u8 2, .int .u64 0, .string ⟨#[]⟩] t))
    (W.alloc (.cells #[.int .u8 0, .int .u64 18446744073709551615, .string ⟨#[]⟩, .int .u8 1, .int .u64 9223372036854775808, .string ⟨#[]⟩, .int .u8 2, .int .u64 0, .string ⟨#[97, 98]⟩, .int .u8 3, .int .u64 1, .string ⟨#[]⟩, .int .u8 2, .int .u64 0, .string ⟨#[]⟩] t)).heap.size
    3 (some ⟨W.heap.size, 0, none⟩) 5 (bitCells list5) := by
  have := Reads.new W (bitCells list5) t 5 3 rfl
  exact this.more (by simp)
theorem packs_5 (A : Option Addr) (w : World) (hr : Reads w w.heap.size 3 A 5 (bitCells list5)) :
    Calls Try.prog 17 #[.slice A 5 5] w fun e w' => e = .returned (.bool true) ∧ Below w.heap.size w w' :=
  packs_try A 5 list5 w (Nat.le_refl _) hr (by simp [list5]) (by intro x hx; simp [list5] at hx; rcases hx with rfl | rfl | rfl | rfl | rfl <;> simp)
end Go.Proofs.Ytfnmpdohpbcegaa
