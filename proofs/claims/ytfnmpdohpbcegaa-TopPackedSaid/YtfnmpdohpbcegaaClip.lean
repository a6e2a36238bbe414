/- append to a slice that has no room behind it (its capacity is its length), owned or not. -/
import Derived.Test.YtfnmpdohpbcegaaApp
namespace Go.Proofs.Ytfnmpdohpbcegaa
open Go.RowKit Go.Lib

section
variable {P : Program}
theorem run_append_clip (w : World) (t u ty e : TypeId) (i : TypeInfo) (z : Value) (size bytes : Nat) (du : TypeDesc) (ht : P.underlying t = some (.slice e)) (hu : P.underlying u = some du) (hdu : srcDesc du)
    (hi : P.info? e = some i) (hz : i.zero = some z) (hsize : i.size = size) (hby : i.bytes = bytes) (_hzs : z.cells.size = size)
    {B : Nat} (A : Option Addr) (n : Nat) (xs : List Value) (hr : Reads w B size A n xs) (hB : B ≤ w.heap.size)
    (x : Value) (m : Nat) (news : List Value) (hx : Gives w size x m news)
    (h63 : n + m ≤ maxLen) (hbytes : (n + m) * bytes ≤ 140737488355328) :
    ∃ A' c' w', (Builtin.append_ #[t, u] ty #[.slice A n n, x]).run P w = .ok (.slice A' (n + m) c') w' ∧ Reads w' w'.heap.size size A' (n + m) (xs ++ news) ∧ Below w.heap.size w w' := by
  subst hsize
  subst hby
  have hsmall : n + m ≤ 9223372036854775807 := by simp only [maxLen] at h63; omega
  have hd : ∀ p v, w.cell? p = some v → w.drew.cell? p = some v := fun p v h => h
  have hf := hx.first (P := P) hd
  have hf0 := hx.first (P := P) (W := w) (fun _ _ h => h)
  have hln := hx.len (P := P) w
  rcases Nat.eq_zero_or_pos m with rfl | hm
  · have hn : news = [] := List.eq_nil_of_length_eq_zero (by simpa using hx.length)
    subst hn
    refine ⟨A, n, w, ?_, by simpa using hr.more hB, Below.refl _ _⟩
    rcases A with _ | ad
    · have hn0 : n = 0 := by
        rcases Nat.eq_zero_or_pos n with h | h
        · exact h
        · obtain ⟨_, h, _⟩ := hr.2 h; cases h
      subst hn0
      rcases hdu with rfl | ⟨e', rfl⟩ <;> simp [Builtin.append_, run_underlying ht, run_underlying hu, sizeOf, typeInfo, hi, hln, hf0]
    · rcases hdu with rfl | ⟨e', rfl⟩ <;> simp [Builtin.append_, run_underlying ht, run_underlying hu, sizeOf, typeInfo, hi, hln, hf0, storeCells]
  · have key : ∀ old, Reads (w.drew.alloc (.cells (xs.toArray ++ news.toArray ++ Builtin.zeroCells z.cells (grownCap w (n + m) old e - (n + m))) e)) (w.heap.size + 1) i.size (some ⟨w.heap.size, 0, none⟩) (n + m) (xs ++ news) := by
      intro old
      have hlen : (xs ++ news).length = (n + m) * i.size := by rw [List.length_append, hr.1, hx.length, Nat.add_mul]
      have h := Reads.block (w := w.drew.alloc (.cells (xs.toArray ++ news.toArray ++ Builtin.zeroCells z.cells (grownCap w (n + m) old e - (n + m))) e)) (g := w.heap.size) (n := n + m) (size := i.size) (heap_alloc_new w.drew _)
        (by simp only [Array.size_append, List.size_toArray]; rw [← hlen, List.length_append]; omega)
      have he : (xs.toArray ++ news.toArray ++ Builtin.zeroCells z.cells (grownCap w (n + m) old e - (n + m))).toList.take ((n + m) * i.size) = xs ++ news := by
        simp only [Array.toList_append, List.append_assoc]
        rw [← List.append_assoc, ← hlen]
        exact List.take_left
      rw [he] at h
      exact h.more (Nat.le_of_eq (World.size_alloc _ _))
    have kb : ∀ o, Below w.heap.size w (w.drew.alloc o) := fun o => ((Below.refl _ w).drew).alloc (Nat.le_refl _) o
    rcases A with _ | ad
    · have hn0 : n = 0 := by
        rcases Nat.eq_zero_or_pos n with h | h
        · exact h
        · obtain ⟨_, h, _⟩ := hr.2 h; cases h
      subst hn0
      have hxs : xs = [] := List.eq_nil_of_length_eq_zero (by simpa using hr.1)
      subst hxs
      have h63' : ¬ (9223372036854775807 < (m : Int)) := by omega
      have h48' : ¬ (281474976710656 < Builtin.nextslicecap m 0 * i.bytes) := by
        rw [nextslicecap_zero (by omega)]
        have hb := hbytes
        simp only [Nat.zero_add] at hb
        omega
      have hn : m ≠ 0 := by omega
      have hk := key 0
      simp only [Nat.zero_add, List.nil_append, Array.empty_append] at hk ⊢
      refine ⟨_, grownCap w m 0 e, _, ?_, hk.more (Nat.le_of_eq (World.size_alloc _ _).symm), kb _⟩
      · rcases hdu with rfl | ⟨e', rfl⟩ <;> simp [Builtin.append_, run_underlying ht, run_underlying hu, sizeOf, typeInfo, zeroValue, hi, hz, hln, hn, h63', h48', Question.forced, run_firstCells_none, hf, newRow, grownCap]
    · have hn : ¬ (n + m ≤ n) := by omega
      have h63' : ¬ (9223372036854775807 < ((n : Int) + (m : Int))) := by omega
      have h48' : ¬ (281474976710656 < Builtin.nextslicecap (n + m) n * i.bytes) := by
        have := growslice_fits (need := n + m) (old := n) (bytes := i.bytes) (by omega) hbytes
        omega
      have holds : ∀ j u, xs[j]? = some u → w.cell? (ad.add j) = some u := by
        intro j u hu
        rcases Nat.eq_zero_or_pos n with h | h
        · have : xs = [] := List.eq_nil_of_length_eq_zero (by rw [hr.1, h]; simp)
          subst this
          simp at hu
        · obtain ⟨_, h, _, hc⟩ := hr.2 h
          cases h
          exact hc j u hu
      have hfo := run_firstCells_some (P := P) w.drew i.size n ad n n xs hr.1 (by simpa using holds)
      refine ⟨_, grownCap w (n + m) n e, _, ?_, (key n).more (Nat.le_of_eq (World.size_alloc _ _).symm), kb _⟩
      rcases hdu with rfl | ⟨e', rfl⟩ <;> simp [Builtin.append_, run_underlying ht, run_underlying hu, sizeOf, typeInfo, zeroValue, hi, hz, hln, hn, h63', h48', Question.forced, hf, hfo, newRow, grownCap] <;> (congr 2; apply Array.ext'; simp [List.append_assoc])

/-- append of a string's bytes to bytes that have no room behind them. -/
theorem app_clip {ops : Array Oper} {rest : List Oper} {o : Oper} {a : Act} {w : World} {Q : Exit → Act → World → Prop} (hgd : o.guard = none) (s x : Operand)
    (ho : o.op = .call { callee := .builtin .append, args := #[s, x], argTypes := #[29, 9] })
    {B : Nat} (A : Option Addr) (n : Nat) (xs : List UInt8) (hs : a.eval s = .slice A n n) (hr : Reads w B 1 A n (byteCells xs)) (hB : B ≤ w.heap.size)
    (S : ByteArray) (hxv : a.eval x = .string S) (hbytes : n + S.size ≤ 140737488355328)
    (h : ∀ A' c' w', Reads w' w'.heap.size 1 A' (n + S.size) (byteCells (xs ++ S.data.toList)) → Below w.heap.size w w' → wpList Try.prog ops Q rest (a.put o.dst (.slice A' (n + S.size) c')) w') : wpList Try.prog ops Q (o :: rest) a w := by
  obtain ⟨i, hi, hz0, hz1, hz2⟩ := info_parts info5
  have hap : byteCells xs ++ strCells S = byteCells (xs ++ S.data.toList) := by rw [strCells_eq]; simp [byteCells]
  refine wpList_plain hgd fun K hK => ?_
  obtain ⟨A', c', w', hrun, h1, h2⟩ := run_append_clip (P := Try.prog) w 29 9 o.type 5 i _ 1 1 .string Try.underlying29 Try.underlying9 (Or.inl rfl) hi hz0 hz1 hz2 rfl A n _ hr hB (.string S) S.size _ (Gives.of_string w S) (by unfold maxLen; omega) (by omega)
  unfold Oper.wp execOp
  simp only [ho, resolve, invoke, builtin, Sem.run_bind, Sem.run_pure, Result.andThen_ok, List.map_toArray, List.map_cons, List.map_nil, hs, hxv, hrun]
  exact hK _ _ (h A' c' w' (by rw [← hap]; exact h1) h2)
end
end Go.Proofs.Ytfnmpdohpbcegaa
