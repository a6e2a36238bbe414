/- What is packed is read. -/
import Derived.Test.YtfnmpdohpbcegaaPacksA
import Derived.Test.YtfnmpdohpbcegaaReadsPure
namespace Go.Proofs.Ytfnmpdohpbcegaa

theorem begN_numP (n : Nat) : ∀ (i acc : Nat) (r : List UInt8), n * 128 ^ i < 18446744073709551616 → (0 < i → 0 < n) → begN (numP n ++ r) i acc = (acc + n * 128 ^ i, i + (numP n).length) := by
  induction n using Nat.strongRecOn with
  | ind n ih =>
    intro i acc r hb hi
    have hi10 : 0 < n → i < 10 := by
      intro hn
      rcases Nat.lt_or_ge i 10 with h | h
      · exact h
      · have h1 : 128 ^ 10 ≤ 128 ^ i := Nat.pow_le_pow_right (by omega) h
        have h2 : 1 * 128 ^ i ≤ n * 128 ^ i := Nat.mul_le_mul_right _ hn
        have h3 : (128 : Nat) ^ 10 = 1180591620717411303424 := by decide
        omega
    have h10 : ¬ 10 ≤ i := by
      rcases Nat.eq_zero_or_pos i with h | h
      · omega
      · have := hi10 (hi h); omega
    have h9 : i = 9 → n < 2 := by
      rintro rfl
      have h3 : (128 : Nat) ^ 9 = 9223372036854775808 := by decide
      omega
    by_cases hn : n < 128
    · rw [numP_small hn]
      have hc : (UInt8.ofNat n).toNat = n := by rw [UInt8.toNat_ofNat']; omega
      simp only [List.cons_append, List.nil_append, begN, hc, List.length_cons, List.length_nil]
      rw [if_neg h10, if_neg (by omega), if_pos hn, Nat.mod_eq_of_lt hn]
    · rw [numP_big hn]
      have hc : (UInt8.ofNat (n % 128 + 128)).toNat = n % 128 + 128 := by rw [UInt8.toNat_ofNat']; omega
      have hm : (n % 128 + 128) % 128 = n % 128 := by omega
      simp only [List.cons_append, begN, hc, hm, List.length_cons]
      have hd : n = 128 * (n / 128) + n % 128 := (Nat.div_add_mod n 128).symm
      have hp : 128 ^ (i + 1) = 128 * 128 ^ i := by rw [Nat.pow_succ, Nat.mul_comm]
      have he : n / 128 * 128 ^ (i + 1) + n % 128 * 128 ^ i = n * 128 ^ i := by
        rw [hp, ← Nat.mul_assoc, Nat.mul_comm (n / 128) 128, ← Nat.add_mul, ← hd]
      rw [if_neg h10, if_neg (by omega), if_neg (by omega), ih (n / 128) (by omega) (i + 1) _ r (by omega) (fun _ => by omega)]
      simp only [Prod.mk.injEq]
      omega
theorem numS_numP (n : Nat) (r : List UInt8) (h : n < 18446744073709551616) : numS true (numP n ++ r) = (true, r, n) := by
  have hb := begN_numP n 0 0 r (by simpa using h) (fun h => by omega)
  have hl : (numP n).length ≠ 0 := by
    unfold numP
    split <;> simp
  unfold numS
  rw [if_pos rfl, hb]
  simp [hl]
theorem stepK_bits (x : BitP) (r : List UInt8) (hn : x.n < 18446744073709551616) (ht : x.t.length ≤ 300) : stepK (x.kind.toNat % 4) 1000 true (x.bytes ++ r) = (true, r) := by
  have h4 : x.kind.toNat % 4 < 4 := Nat.mod_lt _ (by omega)
  unfold stepK BitP.bytes
  generalize x.kind.toNat % 4 = k at *
  have hk : k = 0 ∨ k = 1 ∨ k = 2 ∨ k = 3 := by omega
  rcases hk with rfl | rfl | rfl | rfl
  · simp [numS_numP _ r hn]
  · simp [numS_numP _ r (foldN_eq (IntKind.i64.wrap (x.n : Int))).2]
  · have h1 := numS_numP x.t.length (x.t ++ r) (by omega)
    rw [if_pos rfl, if_neg (by omega), if_neg (by omega), if_pos rfl]
    unfold textS textP
    rw [List.append_assoc, h1]
    simp only [if_true]
    rw [if_neg (by simp; omega)]
    simp
  · have h1 := numS_numP (x.n % 2) r (by omega)
    rw [if_neg (by omega), if_pos rfl, if_neg (by omega), if_neg (by omega), if_neg (by omega)]
    unfold flagS
    rw [h1]
    simp only
    rw [if_neg (by omega)]
theorem runK_bits (l : List BitP) (h : ∀ x ∈ l, x.n < 18446744073709551616 ∧ x.t.length ≤ 300) : runK 1000 (kindsP l) true (bitsP l) = l.length := by
  induction l with
  | nil => rfl
  | cons x l ih =>
    have h1 := ih fun y hy => h y (List.mem_cons_of_mem _ hy)
    have h2 := stepK_bits x (bitsP l) (h x List.mem_cons_self).1 (h x List.mem_cons_self).2
    simp only [kindsP, List.map_cons, bitsP, List.flatMap_cons] at h1 h2 ⊢
    unfold runK
    rw [h2]
    simp only [if_true, List.length_cons]
    omega
end Go.Proofs.Ytfnmpdohpbcegaa
