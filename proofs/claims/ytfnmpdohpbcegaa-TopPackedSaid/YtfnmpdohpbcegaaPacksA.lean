/- Things that are packed: their bytes; words for worlds behind calls. -/
import Derived.Test.YtfnmpdohpbcegaaPack3
import Derived.Lib.SlBytesConst
import Derived.Deep.RegionHeld3
namespace Go.Proofs.Ytfnmpdohpbcegaa
open Go Go.RowKit Go.ChangeShapes

/-- A thing that is packed. -/
structure BitP where
  kind : UInt8
  n : Nat
  t : List UInt8
def BitP.cells (x : BitP) : List Value := [.int .u8 (x.kind.toNat : Int), .int .u64 (x.n : Int), .string (bs x.t)]
def bitCells (l : List BitP) : List Value := l.flatMap BitP.cells
def BitP.bytes (x : BitP) : List UInt8 :=
  if x.kind.toNat % 4 = 0 then numP x.n
  else if x.kind.toNat % 4 = 1 then numP (foldN (IntKind.i64.wrap (x.n : Int)))
  else if x.kind.toNat % 4 = 2 then textP x.t
  else numP (x.n % 2)
theorem bitCells_len (l : List BitP) : (bitCells l).length = l.length * 3 := by
  induction l with
  | nil => rfl
  | cons x l ih => simp [bitCells, BitP.cells] at ih ⊢; omega
theorem bitCells_at (l : List BitP) (k : Nat) (h : k < l.length) : (bitCells l)[k * 3]? = some (.int .u8 (l[k].kind.toNat : Int)) ∧ (bitCells l)[k * 3 + 1]? = some (.int .u64 (l[k].n : Int)) ∧ (bitCells l)[k * 3 + 2]? = some (.string (bs l[k].t)) := by
  induction l generalizing k with
  | nil => simp at h
  | cons x l ih =>
    cases k with
    | zero => simp [bitCells, BitP.cells]
    | succ k =>
      have := ih k (by simpa using h)
      simp only [bitCells, List.flatMap_cons, BitP.cells, List.cons_append, List.nil_append] at this ⊢
      rw [show (k + 1) * 3 = k * 3 + 3 by omega]
      simpa using this
theorem add_far (a : Addr) (m j : Nat) (hj : 0 < j) : a.add (m + j) = ⟨(a.add m).block, (a.add m).off + j, none⟩ := by
  rw [← add_of_add]
  generalize a.add m = b
  unfold Addr.add
  rw [if_neg (by omega)]
theorem Reads.row {w : World} {B n k s : Nat} {A : Option Addr} {xs : List Value} (h : Reads w B s A n xs) (hk : k < n) :
    ∃ ad, A = some ad ∧ ad.block < B ∧ (∀ u, xs[k * s]? = some u → w.cell? (ad.add (k * s)) = some u) ∧ ∀ j u, 0 < j → xs[k * s + j]? = some u → w.cell? ⟨(ad.add (k * s)).block, (ad.add (k * s)).off + j, none⟩ = some u := by
  obtain ⟨ad, e, hb, hc⟩ := h.2 (by omega)
  exact ⟨ad, e, hb, fun u hu => hc _ _ hu, fun j u hj hu => by rw [← add_far _ _ _ hj]; exact hc _ _ hu⟩

def bitsP (l : List BitP) : List UInt8 := l.flatMap BitP.bytes
def kindsP (l : List BitP) : List UInt8 := l.map BitP.kind
theorem bitsP_take (l : List BitP) (k : Nat) (h : k < l.length) : bitsP (l.take (k + 1)) = bitsP (l.take k) ++ l[k].bytes := by
  unfold bitsP; rw [List.take_succ_eq_append_getElem h, List.flatMap_append]; simp
theorem kindsP_take (l : List BitP) (k : Nat) (h : k < l.length) : kindsP (l.take (k + 1)) = kindsP (l.take k) ++ [l[k].kind] := by
  unfold kindsP; rw [List.take_succ_eq_append_getElem h, List.map_append]; simp
theorem BitP.bytes_len (x : BitP) (hn : x.n < 18446744073709551616) (ht : x.t.length ≤ 300) : x.bytes.length ≤ 310 := by
  unfold BitP.bytes
  have h1 := numP_ten hn
  have h2 := numP_ten (foldN_eq (IntKind.i64.wrap (x.n : Int))).2
  have h3 := numP_ten (show x.t.length < 18446744073709551616 by omega)
  have h4 := numP_ten (show x.n % 2 < 18446744073709551616 by omega)
  split
  · omega
  · split
    · omega
    · split
      · unfold textP; simp; omega
      · omega
theorem bitsP_len (l : List BitP) (h : ∀ x ∈ l, x.n < 18446744073709551616 ∧ x.t.length ≤ 300) : (bitsP l).length ≤ 310 * l.length := by
  induction l with
  | nil => simp [bitsP]
  | cons x l ih =>
    have h1 := ih fun y hy => h y (List.mem_cons_of_mem _ hy)
    have h2 := x.bytes_len (h x List.mem_cons_self).1 (h x List.mem_cons_self).2
    simp only [bitsP, List.flatMap_cons, List.length_append, List.length_cons] at h1 ⊢
    omega

theorem Reads.newM (w : World) (xs : List Value) (t : TypeId) (f : Nat × Nat) (n size : Nat) (h : xs.length = n * size) :
    Reads (w.alloc (.cells xs.toArray t f)) (w.heap.size + 1) size (some ⟨w.heap.size, 0, none⟩) n xs := by
  have := Reads.block (w := w.alloc (.cells xs.toArray t f)) (g := w.heap.size) (n := n) (size := size) (heap_alloc_new w _) (by simp [h])
  simpa [← h] using this
theorem num_one {B B' : Nat} (A : Option Addr) (c : Nat) (bl : List UInt8) (A' : Option Addr) (c' : Nat) (n : Nat) (w : World) (hB : B ≤ w.heap.size) (hr : Reads w B 1 A bl.length (byteCells bl)) (hB' : B' ≤ w.heap.size) (hr' : Reads w B' 1 A' 1 [.int .u64 (n : Int)])
    (hl : bl.length ≤ 800000) (hn : n < 18446744073709551616) :
    Calls Try.prog 53 #[.slice A bl.length c, .slice A' 1 c'] w (RetBytes (bl ++ numP n) w) := by
  have := num_any A c bl A' c' [n] w hB hr hB' hr' (by simp; omega) (by simpa using hn)
  simpa using this
theorem gives_at (W : World) (v : Int) (b : UInt8) (g : Nat) (hg : W.heap.size = g) (h : v = ((b.toNat : Nat) : Int)) : Gives (W.alloc (.cells #[.int .u8 v] 5)) 1 (.slice (some ⟨g, 0, none⟩) 1 1) 1 (byteCells [b]) := by
  subst hg
  exact gives_one W v b h
theorem reads_at1 (W : World) (u : Value) (t : TypeId) (g : Nat) (hg : W.heap.size = g) : Reads (W.alloc (.cells #[u] t)) (g + 1) 1 (some ⟨g, 0, none⟩) 1 [u] := by
  subst hg
  exact Reads.new W [u] t 1 1 rfl
theorem reads_at1w (W : World) (u : Value) (t : TypeId) : Reads (W.alloc (.cells #[u] t)).drew (W.alloc (.cells #[u] t)).drew.heap.size 1 (some ⟨W.heap.size, 0, none⟩) 1 [u] :=
  (reads_at1 W u t _ rfl).more (by show _ ≤ (W.heap.push _).size; simp)
theorem num_w (A : Option Addr) (c : Nat) (bl : List UInt8) (A' : Option Addr) (c' : Nat) (n : Nat) (w : World) (hr : Reads w w.heap.size 1 A bl.length (byteCells bl)) (hr' : Reads w w.heap.size 1 A' 1 [.int .u64 (n : Int)])
    (hl : bl.length ≤ 800000) (hn : n < 18446744073709551616) : Calls Try.prog 53 #[.slice A bl.length c, .slice A' 1 c'] w (RetBytes (bl ++ numP n) w) :=
  num_one A c bl A' c' n w (Nat.le_refl _) hr (Nat.le_refl _) hr' hl hn
theorem belStep {a b c : World} (k : Below b.heap.size b c) (h : Below a.heap.size a b) : Below a.heap.size a c := h.trans (k.mono h.size)
theorem allocStep {a b : World} (h : Below a.heap.size a b) (o : Obj) : Below a.heap.size a (b.alloc o) := h.alloc h.size o
theorem freshStep {a b : World} {A : Option Addr} (h : Below a.heap.size a b) (hf : Fresh b A) : Fresh a A := hf.mono h.size
theorem keep1 {p : Addr} {v : Value} {a b : World} (hc : a.cell? p = some v) (hl : p.block < a.heap.size) (hb : Below a.heap.size a b) : b.cell? p = some v ∧ Below a.heap.size a b := ⟨(hb.cell hl).trans hc, hb⟩
theorem readsStep {a b : World} {B size n : Nat} {A : Option Addr} {xs : List Value} (h : Reads a B size A n xs) (hB : B ≤ a.heap.size) (hb : Below a.heap.size a b) : Reads b b.heap.size size A n xs :=
  (h.below (hb.mono hB)).more (Nat.le_trans hB hb.size)
theorem int_w (A : Option Addr) (c : Nat) (bl : List UInt8) (A' : Option Addr) (n : Int) (w : World) (hr : Reads w w.heap.size 1 A bl.length (byteCells bl)) (hr' : Reads w w.heap.size 1 A' 1 [.int .i64 n])
    (hl : bl.length ≤ 800000) : Calls Try.prog 54 #[.slice A bl.length c, .slice A' 1 1] w (RetBytes (bl ++ numP (foldN n)) w) :=
  int_any A c bl A' n w (Nat.le_refl _) hr (Nat.le_refl _) hr' hl
theorem text_w (A : Option Addr) (c : Nat) (bl : List UInt8) (A' : Option Addr) (t : List UInt8) (w : World) (hr : Reads w w.heap.size 1 A bl.length (byteCells bl)) (hr' : Reads w w.heap.size 1 A' 1 [.string (bs t)])
    (hl : bl.length ≤ 800000) (ht : t.length ≤ 300) : Calls Try.prog 55 #[.slice A bl.length c, .slice A' 1 1] w (RetBytes (bl ++ textP t) w) := by
  have := text_any A c bl A' (bs t) w (Nat.le_refl _) hr (Nat.le_refl _) hr' hl (by rw [bs_size]; omega)
  rwa [bs_toList] at this
theorem flag_w (A : Option Addr) (c : Nat) (bl : List UInt8) (A' : Option Addr) (b : Bool) (w : World) (hr : Reads w w.heap.size 1 A bl.length (byteCells bl)) (hr' : Reads w w.heap.size 1 A' 1 [.bool b])
    (hl : bl.length ≤ 800000) : Calls Try.prog 56 #[.slice A bl.length c, .slice A' 1 1] w (RetBytes (bl ++ numP (if b then 1 else 0)) w) :=
  flag_any A c bl A' b w (Nat.le_refl _) hr (Nat.le_refl _) hr' hl
/-- Two slices lie apart. -/
def Apart (A : Option Addr) (v : Value) : Prop := ∀ ad, A = some ad → v.ownBlock ≠ some ad.block
theorem Fresh.apart {w : World} {A : Option Addr} {v : Value} (h : Fresh w A) (hv : ∀ k, v.ownBlock = some k → k < w.heap.size) : Apart A v := fun ad e hk => by
  have h1 := h ad e
  have h2 := hv _ hk
  omega
theorem Reads.apart {w w' : World} {B size n : Nat} {A : Option Addr} {xs : List Value} {v : Value} (h : Reads w B size A n xs) (hB : B ≤ w.heap.size) (hg : w.grownBy w' v.ownBlock) (ha : Apart A v) : Reads w' B size A n xs :=
  ⟨h.1, fun hn => by
    obtain ⟨ad, e, hb, hc⟩ := h.2 hn
    exact ⟨ad, e, hb, fun j u hu => (World.cell?_of_block (hg.block _ (by rw [block_of_add]; omega) (by rw [block_of_add]; exact fun h => ha ad e h.symm))).trans (hc j u hu)⟩⟩
/-- 'string(b)' as an equation. -/
theorem run_string_of {w : World} {B : Nat} {A : Option Addr} {n : Nat} {l : List UInt8} (hr : Reads w B 1 A n (byteCells l)) (c : Nat) : (convert 29 9 (.slice A n c)).run Try.prog w = .ok (.string (bs l)) w := by
  have hlen : n = l.length := by have := hr.1; simp [byteCells] at this; omega
  rw [run_convert_bytes_string (P := Try.prog) w 29 9 5 A n c Try.underlying29 Try.underlying5 Try.underlying9]
  rcases A with _ | ad
  · have hl : l = [] := by
      rcases Nat.eq_zero_or_pos n with h0 | h0
      · exact List.eq_nil_of_length_eq_zero (by omega)
      · obtain ⟨ad, h, _⟩ := hr.2 h0
        cases h
    subst hl
    rfl
  · have hc : ∀ j u, (byteCells l)[j]? = some u → w.cell? (ad.add j) = some u := by
      intro j u hu
      rcases Nat.eq_zero_or_pos n with h0 | h0
      · have hl : l = [] := List.eq_nil_of_length_eq_zero (by omega)
        subst hl
        simp [byteCells] at hu
      · obtain ⟨ad', h, _, hc⟩ := hr.2 h0
        injection h with h
        subst h
        exact hc j u hu
    have h1 := run_loadCells_list (P := Try.prog) w ad (byteCells l) hc
    rw [show (byteCells l).length = n by simp [byteCells, hlen]] at h1
    have h2 := run_bytesToString (P := Try.prog) w ad n c (l.map fun b => (b.toNat : Int)) (by rw [h1]; simp [byteCells, Function.comp_def])
    rw [h2, bytes_fold]
    simp [ByteArray.empty, ByteArray.emptyWithCapacity, bs]
    rfl
def p3 : List UInt8 := numP 300
def p0 : List UInt8 := numP 0
def q30 : List UInt8 := p3 ++ p0
theorem q30_bs : bs p3 ++ bs p0 = bs q30 := bs_append _ _
theorem p3_size : (bs p3).size ≤ 10 := by rw [bs_size]; exact numP_ten (by omega)
theorem p0_size : (bs p0).size ≤ 10 := by rw [bs_size]; exact numP_ten (by omega)
theorem num_300 (A' : Option Addr) (w : World) (hr' : Reads w w.heap.size 1 A' 2 [.int .u64 300, .int .u64 0]) : Calls Try.prog 53 #[.slice none 0 0, .slice A' 2 2] w (RetBytes q30 w) := by
  have := num_any (B := 0) none 0 [] A' 2 [300, 0] w (Nat.zero_le _) Reads.none_ (Nat.le_refl _) hr' (by simp) (by simp)
  have h2 : [] ++ [300, 0].flatMap numP = q30 := by simp [q30, p3, p0]
  rw [h2] at this
  exact this
theorem n33_300 (w : World) : Calls Try.prog 66 #[.int .u64 300] w fun e w' => e = .returned (.string (bs p3)) ∧ Below w.heap.size w w' :=
  number33_any 300 w (by omega)
theorem n33_0 (w : World) : Calls Try.prog 66 #[.int .u64 0] w fun e w' => e = .returned (.string (bs p0)) ∧ Below w.heap.size w w' :=
  number33_any 0 w (by omega)
theorem pack300 : ∃ P3 P0 Q30 : List UInt8, bs P3 ++ bs P0 = bs Q30 ∧ (bs P3).size ≤ 10 ∧ (bs P0).size ≤ 10 ∧
    Hid (∀ (A' : Option Addr) (w : World), Reads w w.heap.size 1 A' 2 [.int .u64 300, .int .u64 0] → Calls Try.prog 53 #[.slice none 0 0, .slice A' 2 2] w (RetBytes Q30 w)) ∧
    Hid (∀ w : World, Calls Try.prog 66 #[.int .u64 300] w fun e w' => e = .returned (.string (bs P3)) ∧ Below w.heap.size w w') ∧
    Hid (∀ w : World, Calls Try.prog 66 #[.int .u64 0] w fun e w' => e = .returned (.string (bs P0)) ∧ Below w.heap.size w w') :=
  ⟨p3, p0, q30, q30_bs, p3_size, p0_size, Lib.hid num_300, Lib.hid n33_300, Lib.hid n33_0⟩
theorem reads_at2 (W : World) (u v : Value) (t : TypeId) : Reads (W.alloc (.cells #[u, v] t)) (W.alloc (.cells #[u, v] t)).heap.size 1 (some ⟨W.heap.size, 0, none⟩) 2 [u, v] :=
  (Reads.new W [u, v] t 2 1 rfl).more (by show _ ≤ (W.heap.push _).size; simp)
theorem reads_at2w (W : World) (u v : Value) (t : TypeId) : Reads (W.alloc (.cells #[u, v] t)).drew (W.alloc (.cells #[u, v] t)).drew.heap.size 1 (some ⟨W.heap.size, 0, none⟩) 2 [u, v] :=
  (Reads.new W [u, v] t 2 1 rfl).more (by show _ ≤ (W.heap.push _).size; simp)
theorem keep2 {a b : World} {B n : Nat} {A : Option Addr} {l : List UInt8} (hr : Reads a B 1 A n (byteCells l)) (hB : B ≤ a.heap.size) (hb : Below a.heap.size a b) : (convert 29 9 (.slice A n n)).run Try.prog b = .ok (.string (bs l)) b ∧ Below a.heap.size a b :=
  ⟨run_string_of (readsStep hr hB hb) n, hb⟩
end Go.Proofs.Ytfnmpdohpbcegaa
