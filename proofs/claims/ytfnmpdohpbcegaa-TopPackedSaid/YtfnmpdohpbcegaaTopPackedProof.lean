/-
  TopPacked: for every list of things, every string, every list of kinds and every number the call returns true and leaves its arguments as they were.
  Conditions: none beyond the statement's own (long lists and long strings are let go by the function's own guards).
-/
import Derived.Test.YtfnmpdohpbcegaaTopPacked
import Derived.Test.YtfnmpdohpbcegaaArgRows
import Derived.Test.YtfnmpdohpbcegaaRows
import Derived.WalkKit
import Derived.ProofKit
import Derived.OpenShut
import Derived.ShutString
import Derived.ChangeOld
import Derived.Below
namespace Go.Proofs.Ytfnmpdohpbcegaa.topPacked
open Go.ChangeShapes Go.WideShapes Go.ChangeAt Go.RowKit
open Go.ChangeMaps (open_string shut_string)
set_option linter.unusedVariables false

theorem own : ownKnob Try.prog.godebug = none := by kernel_rfl
theorem laidOut : laidOutB Try.prog = true := by kernel_rfl

theorem cells29 : Try.prog.cellsOf 5 = 1 := by kernel_rfl
theorem cells32 : Try.prog.cellsOf 32 = 3 := by kernel_rfl
theorem cells30 : Try.prog.cellsOf 30 = 1 := by kernel_rfl
theorem cells9 : Try.prog.cellsOf 9 = 1 := by kernel_rfl
theorem bits_of {H : Type} {enc : TypeId × Value → H} {W : World} {base : Nat} {spare : Nat → Bool} {held : Bool} {a : Option Addr} {len cap : Nat} {d : DataW H} {ps : List MemPlace} (h : DataW.Trod enc Try.prog W base spare held 28 (.slice a len cap) d ps) :
    ∃ l : List BitP, l.length = len ∧ (∀ x ∈ l, x.n < 18446744073709551616) ∧ Reads W W.heap.size 3 a len (bitCells l) ∧ len ≤ maxLen := by
  obtain ⟨C, hC, hr, h1, h2⟩ := open_rows 3 Try.underlying28 cells32 (by omega) h
  obtain ⟨l, hl, hp, hf⟩ := chunks BitP.cells (fun x => x.n < 18446744073709551616) C len fun i hi => by
    obtain ⟨h3, ht⟩ := hC i hi
    obtain ⟨n0, e0, w0⟩ := (ht.field Try.underlying32 0 5 0 1 rfl cells29).int_ Try.underlying5
    obtain ⟨n1, e1, w1⟩ := (ht.field Try.underlying32 1 30 1 1 rfl cells30).int_ Try.underlying30
    obtain ⟨s2, e2⟩ := (ht.field Try.underlying32 2 9 2 1 rfl cells9).string_ Try.underlying9
    have hb0 := bounds_u8 w0
    have hb1 := bounds_u64 w1
    match hc : C i, h3 with
    | [c0, c1, c2], _ =>
      rw [hc] at e0 e1 e2
      simp at e0 e1 e2
      refine ⟨⟨UInt8.ofNat n0.toNat, n1.toNat, s2⟩, by simp only; omega, ?_⟩
      rw [e0, e1, e2]
      simp only [BitP.cells]
      rw [UInt8.toNat_ofNat', show (((n0.toNat % 2 ^ 8 : Nat)) : Int) = n0 by omega, show ((n1.toNat : Nat) : Int) = n1 by omega]
  exact ⟨l, hl, hp, by rw [hf] at hr; exact hr, by omega⟩

theorem walk (a0 : Option Addr) (len0 cap0 : Nat) (l : List BitP) (M : ByteArray) (a2 : Option Addr) (len2 cap2 : Nat) (ks : List UInt8) (a3 : Int) (w : World) (hlen : l.length = len0) (hn : ∀ x ∈ l, x.n < 18446744073709551616) (hr : Reads w w.heap.size 3 a0 len0 (bitCells l)) (hm : len0 ≤ maxLen)
    (hM : M.size ≤ maxLen) (hlen2 : ks.length = len2) (hr2 : Reads w w.heap.size 1 a2 len2 (byteCells ks)) (hm2 : len2 ≤ maxLen) (w3 : (Lit.int .i64 a3).wf = true) :
    Calls Try.prog 5 #[.slice a0 len0 cap0, .string M, .slice a2 len2 cap2, .int .i64 a3] w fun e w' => e = .returned (.bool true) ∧ Below w.heap.size w w' := by
  have hb := bounds_i64 w3
  subst hlen
  subst hlen2
  unfold maxLen at hm hm2 hM
  have hMe : M = bs M.data.toList := by cases M; simp [bs]
  rw [hMe]
  exact toppacked_any a0 cap0 l M.data.toList a2 cap2 ks a3 w (Nat.le_refl _) hr (by omega) hn (by simp; omega) (Nat.le_refl _) hr2 (by omega) (by omega) (by omega)

/-! ### THE ROW's STEP -/
set_option maxRecDepth 100000 in
theorem lifted (os : Os) (started : os.Started) (H : Type) (enc : TypeId × Value → H) :
    ReturnsInHanded {} Try.checked os 5 .any (Rows.topPackedSpec.pre6 enc Try.prog Try.f5 Rows.topPackedRow.domain false) (Rows.topPackedSpec.post enc Try.prog Try.f5 false true false false) := by
  refine returnsInHanded_of_change (C := Try.checked) own started (by kernel_rfl) Try.func5
    (ChangeSpec.witness6 (enc := enc) (C := Try.checked) false ⟨#[], #[.slice none 0 0, .string ByteArray.empty, .slice none 0 0, .int .i64 0], []⟩ 8 (by kernel_rfl) (by kernel_rfl) (by kernel_rfl) (by kernel_rfl)) ?_
  intro W base args ds gs before hval0 hW hcnd _
  have hval : ∀ (j : Nat) t v, Try.f5.params[j]? = some t → args[j]? = some v → Value.okWide Try.prog W .any base t v := hval0
  have hW' := hW
  obtain ⟨p, q, hA0, hV, rfl, hfz, hnd⟩ := hW
  have hA : DataW.TrodAll enc Try.prog W 0 (fun _ => true) true Try.f5.params.toList args.toList ds p := hA0
  rw [Try.params5] at hA hval
  obtain ⟨v0, vs0, d0, ds0, p0, q0, hargs, rfl, rfl, h0, r0⟩ := trodAll_cons hA
  obtain ⟨v1, vs1, d1, ds1, p1, q1, rfl, rfl, rfl, h1, r1⟩ := trodAll_cons r0
  obtain ⟨v2, vs2, d2, ds2, p2, q2, rfl, rfl, rfl, h2, r2⟩ := trodAll_cons r1
  obtain ⟨v3, vs3, d3, ds3, p3, q3, rfl, rfl, rfl, h3, r3⟩ := trodAll_cons r2
  obtain ⟨rfl, rfl, rfl⟩ := trodAll_nil r3
  obtain rfl : args = #[v0, v1, v2, v3] := by cases args; simp_all
  obtain ⟨rfl, rfl⟩ := trodVars_none hV
  obtain ⟨a0, len0, cap0, rfl⟩ := okWide_slice Try.underlying28 (hval 0 28 v0 rfl rfl)
  have k0 := h0
  have lt0 : ∀ x ∈ p0, x.block < W.heap.size := by obtain ⟨m, hm⟩ := k0; exact DataW.trod_lt m _ _ _ hm
  obtain ⟨a1, rfl, rfl, rfl, w1⟩ := open_string Try.underlying9 (hval 1 9 v1 rfl rfl) h1
  obtain ⟨a2, len2, cap2, rfl⟩ := okWide_slice Try.underlying29 (hval 2 29 v2 rfl rfl)
  have k2 := h2
  have lt2 : ∀ x ∈ p2, x.block < W.heap.size := by obtain ⟨m, hm⟩ := k2; exact DataW.trod_lt m _ _ _ hm
  obtain ⟨a3, rfl, rfl, rfl, w3⟩ := open_int Try.underlying3 (hval 3 3 v3 rfl rfl) h3
  obtain ⟨l0, hl0, hn0, hr0, hm0⟩ := bits_of h0
  obtain ⟨l2, hl2, hr2, hm2⟩ := reads_bytes Try.underlying29 Try.underlying5 cells29 h2
  clear hA0 hval0
  refine (walk a0 len0 cap0 l0 a1 a2 len2 cap2 l2 a3 W hl0 hn0 hr0 hm0 w1 hl2 hr2 hm2 w3).mono fun e W' ⟨he, bel⟩ => ?_
  subst he
  exact ⟨_, rfl, _, _, _, [], _, [], hW', trodAll_mk1 (shut_bool Try.underlying4 _), (trodAll_cons_mk (Below.trod laidOut (by kernel_rfl) (of_decide_eq_true (by kernel_rfl)) k0 bel lt0) (trodAll_cons_mk (shut_string Try.underlying9 w1) (trodAll_cons_mk (Below.trod laidOut (by kernel_rfl) (of_decide_eq_true (by kernel_rfl)) k2 bel lt2) (trodAll_cons_mk (shut_int Try.underlying3 w3) trodAll_mk0)))), rfl, bel.frame _, fun h => by cases h⟩

theorem over : Rows.topPackedRow.holds Try.pinned (OpenSpec.ofChange Rows.topPackedSpec) :=
  OpenClaim.holds_of_wide 5 Try.f5 rfl rfl rfl rfl rfl rfl rfl ⟨rfl, rfl, rfl, rfl, rfl⟩ rfl rfl rfl rfl rfl (by kernel_rfl) Try.func5 (by kernel_rfl)
    (of_decide_eq_true (by kernel_rfl)) (by unfold Func.isWrapper; first | (rw [if_pos (by decide +kernel)]; kernel_rfl) | (rw [if_neg (by decide +kernel)]; exact ⟨rfl, rfl⟩))
    (fun os started H enc _ => lifted os started H enc)

/-- THE STATEMENT -/
theorem proved : Rows.TopPackedSaid := over
#print axioms proved
end Go.Proofs.Ytfnmpdohpbcegaa.topPacked
