/- append at this program's types. -/
import Derived.Test.YtfnmpdohpbcegaaProg
import Derived.Test.YtfnmpdohpbcegaaOwn
import Derived.WalkKit
namespace Go.Proofs.Ytfnmpdohpbcegaa
open Go.RowKit

theorem info5 : (Try.prog.info? 5).map (fun i => (i.zero, i.size, i.bytes)) = some (some (.int .u8 0), 1, 1) := by kernel_rfl
theorem info9 : (Try.prog.info? 9).map (fun i => (i.zero, i.size, i.bytes)) = some (some (.string ⟨#[]⟩), 1, 16) := by kernel_rfl

theorem app_bytes {ops : Array Oper} {rest : List Oper} {o : Oper} {a : Act} {w : World} {Q : Exit → Act → World → Prop} (hgd : o.guard = none) (s x : Operand) (u : TypeId)
    (ho : o.op = .call { callee := .builtin .append, args := #[s, x], argTypes := #[29, u] }) (hu : u = 9 ∨ u = 29)
    (base : Nat) (v : Value) (n : Nat) (xs : List UInt8) (hs : a.eval s = v) (hown : Own w base 5 1 v n (byteCells xs))
    (xv : Value) (m : Nat) (news : List UInt8) (hxv : a.eval x = xv) (hx : Gives w 1 xv m (byteCells news))
    (hbytes : n + m ≤ 140737488355328) (hbase : base ≤ w.heap.size)
    (h : ∀ v' w', Own w' base 5 1 v' (n + m) (byteCells (xs ++ news)) → w.grownBy w' v.ownBlock → (v'.ownBlock = v.ownBlock ∨ v'.ownBlock = some w.heap.size) → wpList Try.prog ops Q rest (a.put o.dst v') w') : wpList Try.prog ops Q (o :: rest) a w := by
  obtain ⟨i, hi, hz0, hz1, hz2⟩ := info_parts info5
  have hone : ∀ u ∈ byteCells news, u.oneCell' = true := by
    intro u hu
    simp only [byteCells, List.mem_map] at hu
    obtain ⟨_, _, rfl⟩ := hu
    rfl
  have hap : byteCells xs ++ byteCells news = byteCells (xs ++ news) := by simp [byteCells]
  rcases hu with rfl | rfl
  · exact wpList_append_gen hgd s x 29 9 ho base 5 i _ 1 1 .string Try.underlying29 Try.underlying9 (Or.inl rfl) hi hz0 hz1 hz2 rfl v n _ hs hown xv m _ hxv hx hone (by unfold maxLen; omega) (by omega) hbase
      fun v' w' h1 h2 h3 _ => h v' w' (by rw [← hap]; exact h1) h2 h3
  · exact wpList_append_gen hgd s x 29 29 ho base 5 i _ 1 1 (.slice 5) Try.underlying29 Try.underlying29 (Or.inr ⟨5, rfl⟩) hi hz0 hz1 hz2 rfl v n _ hs hown xv m _ hxv hx hone (by unfold maxLen; omega) (by omega) hbase
      fun v' w' h1 h2 h3 _ => h v' w' (by rw [← hap]; exact h1) h2 h3
end Go.Proofs.Ytfnmpdohpbcegaa
