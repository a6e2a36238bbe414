/- A range over a function: an iterator that tells a known list and may keep state in cells of its own; the law for the loop. -/
import Derived.RangeFuncNested
import Derived.RangeFuncBound
import Derived.RangeFuncCalls
import Derived.RangeFuncLeaves
import Derived.Shelf.Abstract
import Derived.Shelf.RegionOpen
import Derived.Test.YtfnmpdohpbcegaaOwn
namespace Go.Proofs.Ytfnmpdohpbcegaa
open Go Go.RowKit

/-- A call that leaves the world as it is, in a region that draws. -/
theorem quiet_left {P : Program} {f : FuncId} {args : Array Value} {w : World} {n : Nat} {v : Value}
    (h : Calls P f args (w.drewN n) fun e w' => e = .returned v ∧ w.drewN n = w') : Calls P f args (w.drewN n) fun e w'' => e = .returned v ∧ ∃ m, w'' = w.drewN m :=
  h.mono fun _ _ ⟨he, hm⟩ => ⟨he, n, hm.symm⟩

/-- Only blocks of M, and what is new, have turned. -/
structure Moved (M : Nat → Prop) (W W' : World) : Prop where
  os : W'.os = W.os
  tape : W'.tape = W.tape
  output : W'.output = W.output
  size : W.heap.size ≤ W'.heap.size
  block : ∀ k, k < W.heap.size → ¬ M k → W'.heap[k]? = W.heap[k]?
/-- Blocks below B, and those of M, have not turned. -/
structure Keeps (B : Nat) (M : Nat → Prop) (W W' : World) : Prop where
  os : W'.os = W.os
  tape : W'.tape = W.tape
  output : W'.output = W.output
  size : W.heap.size ≤ W'.heap.size
  block : ∀ k, k < W.heap.size → k < B ∨ M k → W'.heap[k]? = W.heap[k]?

section
variable {M N : Nat → Prop} {B : Nat} {A W W' W'' : World}
theorem Moved.refl (M : Nat → Prop) (W : World) : Moved M W W := ⟨rfl, rfl, rfl, Nat.le_refl _, fun _ _ _ => rfl⟩
theorem Moved.trans (h : Moved M W W') (k : Moved M W' W'') : Moved M W W'' :=
  ⟨k.os.trans h.os, k.tape.trans h.tape, k.output.trans h.output, Nat.le_trans h.size k.size, fun i hi hm => (k.block i (Nat.lt_of_lt_of_le hi h.size) hm).trans (h.block i hi hm)⟩
/-- What the second step turns may be new. -/
theorem Moved.trans' (h : Moved M W W') (k : Moved N W' W'') (hN : ∀ b, N b → M b ∨ W.heap.size ≤ b) : Moved M W W'' :=
  ⟨k.os.trans h.os, k.tape.trans h.tape, k.output.trans h.output, Nat.le_trans h.size k.size, fun i hi hm =>
    (k.block i (Nat.lt_of_lt_of_le hi h.size) (fun hn => by
      rcases hN i hn with h1 | h1
      · exact hm h1
      · omega)).trans (h.block i hi hm)⟩
theorem Moved.mono (h : Moved M W W') (hM : ∀ b, M b → N b) : Moved N W W' := ⟨h.os, h.tape, h.output, h.size, fun k hk hn => h.block k hk (fun hm => hn (hM k hm))⟩
theorem Moved.of_below (h : Below W.heap.size W W') (M : Nat → Prop) : Moved M W W' := ⟨h.os, h.tape, h.output, h.size, fun k hk _ => h.block k hk⟩
theorem Moved.drewN (h : Moved M W W') (n : Nat) : Moved M W (W'.drewN n) := ⟨h.os, h.tape, h.output, h.size, h.block⟩
theorem Moved.drew (h : Moved M W W') : Moved M W W'.drew := ⟨h.os, h.tape, h.output, h.size, h.block⟩
theorem Moved.alloc (h : Moved M W W') (o : Obj) : Moved M W (W'.alloc o) :=
  h.trans ⟨rfl, rfl, rfl, by simp, fun k hk _ => Below.heap_alloc _ _ _ hk⟩
theorem Moved.setCell (h : Moved M W W') {p : Addr} (hp : M p.block ∨ W.heap.size ≤ p.block) (u : Value) : Moved M W (W'.setCell p u) :=
  ⟨h.os, h.tape, h.output, by simpa [World.setCell] using h.size, fun k hk hm => (Below.heap_setCell _ _ _ _ (by
    rintro rfl
    rcases hp with h1 | h1
    · exact hm h1
    · omega)).trans (h.block k hk hm)⟩
theorem Moved.grown (h : Moved M W W') {row : Option Nat} (hg : W'.grownBy W'' row) (hr : ∀ k, row = some k → M k ∨ W.heap.size ≤ k) : Moved M W W'' :=
  ⟨hg.os.trans h.os, hg.tape.trans h.tape, hg.output.trans h.output, Nat.le_trans h.size hg.size, fun k hk hm => (hg.block k (Nat.lt_of_lt_of_le hk h.size) (fun e => by
    rcases hr k e.symm with h1 | h1
    · exact hm h1
    · omega)).trans (h.block k hk hm)⟩
theorem Moved.below (h : Moved M W W') (hM : ∀ b, M b → B ≤ b) (hB : B ≤ W.heap.size) : Below B W W' :=
  ⟨h.os, h.tape, h.output, h.size, fun k hk => h.block k (by omega) (fun hm => by have := hM k hm; omega)⟩
theorem Keeps.refl (B : Nat) (M : Nat → Prop) (W : World) : Keeps B M W W := ⟨rfl, rfl, rfl, Nat.le_refl _, fun _ _ _ => rfl⟩
theorem Keeps.trans (h : Keeps B M W W') (k : Keeps B M W' W'') : Keeps B M W W'' :=
  ⟨k.os.trans h.os, k.tape.trans h.tape, k.output.trans h.output, Nat.le_trans h.size k.size, fun i hi hm => (k.block i (Nat.lt_of_lt_of_le hi h.size) hm).trans (h.block i hi hm)⟩
theorem Keeps.mono (h : Keeps B M W W') (hM : ∀ b, N b → M b) : Keeps B N W W' := ⟨h.os, h.tape, h.output, h.size, fun k hk hn => h.block k hk (hn.imp id (hM k))⟩
theorem Keeps.below (h : Keeps B M W W') (hB : B ≤ W.heap.size) : Below B W W' := ⟨h.os, h.tape, h.output, h.size, fun k hk => h.block k (by omega) (Or.inl hk)⟩
theorem Keeps.blk {g : Nat} {t : TypeId} {cs : Array Value} (h : Keeps B M W W') (hb : Blk W g t cs) (hg : M g) : Blk W' g t cs := (h.block g hb.lt (Or.inr hg)).trans hb
end

theorem Own.same {w w' : World} {base : Nat} {e : TypeId} {size : Nat} {v : Value} {n : Nat} {xs : List Value} (h : Own w base e size v n xs) (hs : ∀ b, v.ownBlock = some b → w'.heap[b]? = w.heap[b]?) : Own w' base e size v n xs := by
  refine ⟨h.1, ?_⟩
  rcases h.2 with hn | ⟨g, cap, cur, fr, rfl, hb, hgg, rest⟩
  · exact .inl hn
  · exact .inr ⟨g, cap, cur, fr, rfl, hb, (hs g rfl).trans hgg, rest⟩

/-- The iterator g, its captured values lb, tells the list xs, one by one, whatever loop calls it; it writes only blocks of M0 and blocks that it makes; what lies below B, and in M0, must not be turned by the rounds. -/
def Iter (P : Program) {α : Type} (g : FuncId) (lb : Array Value) (enc : α → Array Value) (xs : List α) (B : Nat) (M0 : Nat → Prop) (w : World) : Prop :=
  ∀ (l : Nat) (W0 : World) (J : (Nat → Prop) → Nat → World → Prop) (Jx : (Nat → Prop) → World → Prop),
    Keeps B M0 w W0 → (∀ b, M0 b → b < w.heap.size) →
    (∀ M k W1 W2, J M k W1 → Moved M W1 W2 → J (fun b => M b ∨ (W1.heap.size ≤ b ∧ b < W2.heap.size)) k W2) →
    (∀ M W1 W2, Jx M W1 → Moved M W1 W2 → Jx (fun b => M b ∨ (W1.heap.size ≤ b ∧ b < W2.heap.size)) W2) →
    (∀ M k x W1, J M k W1 → xs[k]? = some x → (∀ b, M b → b < W1.heap.size) → YieldAt Fence.wide 0 P l (enc x) W1 fun e W' =>
      (e = .returned (.bool true) ∧ J M (k + 1) W' ∧ Keeps B M W1 W') ∨ (e = .returned (.bool false) ∧ Jx M W' ∧ Keeps B M W1 W')) →
    J M0 0 W0 →
    CallsIn Fence.wide 0 P g (#[.func (.yield l) #[] #[]] ++ lb) W0 fun e W' => (∃ v, e = .returned v) ∧ ((∃ M, J M xs.length W') ∨ (∃ M, Jx M W'))

/-- How the body of a round may be left. -/
def roundEnd (I : Nat → (Nat → Prop) → World → Prop) (Ix : Code → (Nat → Prop) → World → Prop) (k : Nat) (C : Nat → Prop) (W : World) : Exit → Act → World → Prop
  | .normal, _, W' => ∃ C', (∀ b, C' b → C b ∨ (W.heap.size ≤ b ∧ b < W'.heap.size)) ∧ I (k + 1) C' W' ∧ Moved C W W'
  | .ret, _, W' => ∃ C', (∀ b, C' b → C b ∨ (W.heap.size ≤ b ∧ b < W'.heap.size)) ∧ Ix .ret C' W' ∧ Moved C W W'
  | .exit id, _, W' => ∃ C', (∀ b, C' b → C b ∨ (W.heap.size ≤ b ∧ b < W'.heap.size)) ∧ Ix (.exit id) C' W' ∧ Moved C W W'
  | .goto _, _, _ => False
  | .panic _, _, _ => False
  | .outgrown, _, _ => False

/-- What an invariant hangs on: its own blocks. -/
def Frames (I : (Nat → Prop) → World → Prop) : Prop :=
  ∀ C W W', I C W → W'.os = W.os → W'.tape = W.tape → W'.output = W.output → W.heap.size ≤ W'.heap.size → (∀ b, C b → W'.heap[b]? = W.heap[b]?) → I C W'

variable {P : Program}

theorem wp_range {α : Type} {g : Operand} {ps : Array Tmp} {assign body : Code} {Q : Exit → Act → World → Prop} {a : Act} {w w0 : World}
    {gf : Nat} {lb : Array Value} (hg : a.eval g = .func (.func gf) #[] lb) (eg : ∀ args w, (callFunc gf args).run P w = .ok (.enter gf args) w)
    {enc : α → Array Value} {xs : List α} {B : Nat} {M0 : Nat → Prop} (hit : Iter P gf lb enc xs B M0 w) (hps : ∀ x, ps.size = (enc x).size)
    (hM0 : ∀ b, M0 b → B ≤ b ∧ b < w.heap.size) (hB : Below B w0 w) (hBw : B ≤ w.heap.size)
    (I : Nat → (Nat → Prop) → World → Prop) (Ix : Code → (Nat → Prop) → World → Prop) (hI : ∀ k, Frames (I k)) (hIx : ∀ c, Frames (Ix c))
    (C0 : Nat → Prop) (hC0 : ∀ b, C0 b → B ≤ b ∧ b < w.heap.size ∧ ¬ M0 b) (h0 : I 0 C0 w) (a₁ : α → Act)
    (hassign : ∀ (l : Nat) (x : α) (W : World) (K : Act → World → Prop), K (a₁ x) W →
      assign.wpIn (Fence.wide.inRound l) 0 P (Exit.then K (fun _ _ _ => False)) { tmps := (ps.zip (enc x)).foldl (fun t (p, v) => t.setIfInBounds p v) a.tmps, defers := [] } W)
    (hbody : ∀ (l k : Nat) (x : α) (C : Nat → Prop) (W : World), xs[k]? = some x → I k C W → (∀ b, C b → B ≤ b ∧ b < W.heap.size) → Below B w0 W → B ≤ W.heap.size →
      body.wpIn (Fence.wide.inRound l) 0 P (roundEnd I Ix k C W) (a₁ x) W)
    (hdone : ∀ (D : Nat) (C : Nat → Prop) (W : World), I xs.length C W → Below B w0 W → W.heap[D]? = some (.deferred (some [])) → B ≤ D → B ≤ W.heap.size → ¬ C D → Q .normal { a with defers := { target := .collected D, args := #[] } :: a.defers } W)
    (hstop : ∀ (D : Nat) (c : Code) (C : Nat → Prop) (W : World), Ix c C W → Below B w0 W → W.heap[D]? = some (.deferred (some [])) → B ≤ D → B ≤ W.heap.size → ¬ C D → c.wpIn Fence.wide 0 P Q { a with defers := { target := .collected D, args := #[] } :: a.defers } W) :
    (Code.rangeFunc g ps assign body).wpIn Fence.wide 0 P Q a w := by
  refine wpIn_rangeFunc ?_
  intro fn hfn
  rw [show Fence.wide.round = none from rfl]
  obtain ⟨rec, hrec⟩ : ∃ rec : LoopState → Option Code → Loop, rec = fun st pe => { state := st, pending := pe, fn, tmps := a.tmps, params := ps, assign, body, defers := w.heap.size } := ⟨_, rfl⟩
  obtain ⟨W1, hW1⟩ : ∃ W1, (w.alloc (.deferred (some []))).alloc (.loop (rec .ready none)) = W1 := ⟨_, rfl⟩
  have hL1 : W1.heap[w.heap.size + 1]? = some (.loop (rec .ready none)) := by
    rw [← hW1]; have := World.alloc_heap_new (w.alloc (.deferred (some []))) (.loop (rec .ready none)); rwa [World.size_alloc] at this
  have hK1 : W1.heap[w.heap.size]? = some (.deferred (some [])) := by
    rw [← hW1]; exact (Below.heap_alloc _ _ _ (by simp)).trans (World.alloc_heap_new w _)
  have hb1 : Below w.heap.size w W1 := by
    rw [← hW1]; exact ((Below.refl _ w).alloc (Nat.le_refl _) _).alloc (by simp) _
  have hz1 : W1.heap.size = w.heap.size + 2 := by rw [← hW1]; simp
  refine ⟨w.heap.size + 1, [{ target := .collected w.heap.size, args := #[] }], W1, { target := .fn (.func gf) lb, args := #[.func (.yield (w.heap.size + 1)) #[] #[]] }, W1, gf,
    #[.func (.yield (w.heap.size + 1)) #[] #[]] ++ lb, W1, ?_, ?_, ?_, ?_, (fun h => by cases h), ?_⟩
  · rw [← hW1, hrec]; exact run_enterLoop_outer _ _ _ _ _
  · simp only [resolve, hg]
    simp [go_sem]
  · intro f' hf'; trivial
  · simp [invoke, go_sem, eg]
  · have hkeep0 : Keeps B M0 w W1 := ⟨hb1.os, hb1.tape, hb1.output, hb1.size, fun k hk _ => hb1.block k hk⟩
    refine (hit (w.heap.size + 1) W1
      (fun M k W => ∃ C, (∀ b, C b → B ≤ b ∧ b < W.heap.size ∧ ¬ M b) ∧ (∀ b, M b → B ≤ b) ∧ ¬ M (w.heap.size + 1) ∧ ¬ M w.heap.size ∧ ¬ C (w.heap.size + 1) ∧ ¬ C w.heap.size ∧ I k C W ∧ Below B w0 W ∧ w.heap.size + 1 < W.heap.size ∧ W.heap[w.heap.size + 1]? = some (.loop (rec .ready none)) ∧ W.heap[w.heap.size]? = some (.deferred (some [])))
      (fun M W => ∃ C c, (∀ b, C b → B ≤ b ∧ b < W.heap.size ∧ ¬ M b) ∧ (∀ b, M b → B ≤ b) ∧ ¬ M (w.heap.size + 1) ∧ ¬ M w.heap.size ∧ ¬ C (w.heap.size + 1) ∧ ¬ C w.heap.size ∧ Ix c C W ∧ Below B w0 W ∧ w.heap.size + 1 < W.heap.size ∧ W.heap[w.heap.size + 1]? = some (.loop (rec .done (some c))) ∧ W.heap[w.heap.size]? = some (.deferred (some [])))
      hkeep0 (fun b hb => (hM0 b hb).2) ?_ ?_ ?_ ?_).mono ?_
    · rintro M k A A' ⟨C, hC, hMB, hl, hd, hcl, hcd, hi, hbl, hsz, hL, hD⟩ hm
      refine ⟨C, fun b hb => ⟨(hC b hb).1, Nat.lt_of_lt_of_le (hC b hb).2.1 hm.size, ?_⟩, ?_, ?_, ?_, hcl, hcd, hI k C A A' hi hm.os hm.tape hm.output hm.size (fun b hb => hm.block b (hC b hb).2.1 (hC b hb).2.2), hbl.trans ⟨hm.os, hm.tape, hm.output, hm.size, fun b hb => hm.block b (by omega) (fun h => by have := hMB b h; omega)⟩, Nat.lt_of_lt_of_le hsz hm.size, (hm.block _ hsz hl).trans hL, (hm.block _ (by omega) hd).trans hD⟩
      · rintro (h | h)
        · exact (hC b hb).2.2 h
        · have := (hC b hb).2.1; omega
      · rintro b (h | h)
        · exact hMB b h
        · omega
      · rintro (h | h)
        · exact hl h
        · omega
      · rintro (h | h)
        · exact hd h
        · omega
    · rintro M A A' ⟨C, c, hC, hMB, hl, hd, hcl, hcd, hi, hbl, hsz, hL, hD⟩ hm
      refine ⟨C, c, fun b hb => ⟨(hC b hb).1, Nat.lt_of_lt_of_le (hC b hb).2.1 hm.size, ?_⟩, ?_, ?_, ?_, hcl, hcd, hIx c C A A' hi hm.os hm.tape hm.output hm.size (fun b hb => hm.block b (hC b hb).2.1 (hC b hb).2.2), hbl.trans ⟨hm.os, hm.tape, hm.output, hm.size, fun b hb => hm.block b (by omega) (fun h => by have := hMB b h; omega)⟩, Nat.lt_of_lt_of_le hsz hm.size, (hm.block _ hsz hl).trans hL, (hm.block _ (by omega) hd).trans hD⟩
      · rintro (h | h)
        · exact (hC b hb).2.2 h
        · have := (hC b hb).2.1; omega
      · rintro b (h | h)
        · exact hMB b h
        · omega
      · rintro (h | h)
        · exact hl h
        · omega
      · rintro (h | h)
        · exact hd h
        · omega
    · rintro M k x W ⟨C, hC, hMB, hl, hd, hcl, hcd, hi, hbl, hsz, hL, hD⟩ hx hMlt
      have hy := run_yield (P := P) (args := enc x) hL (by rw [hrec]; exact (hps x).symm)
      rw [hrec] at hy
      refine ⟨fn, _, assign, body, hy, roundIn_of_wpIn hfn (hassign _ x W _ ⟨_, run_beginRound hL (by rw [hrec]), ?_⟩)⟩
      obtain ⟨W2, hW2⟩ : ∃ W2, W.putObj (w.heap.size + 1) (.loop { rec .ready none with state := .busy }) = W2 := ⟨_, rfl⟩
      have hz2 : W2.heap.size = W.heap.size := by rw [← hW2]; simp [World.putObj]
      have hl2 : W2.heap[w.heap.size + 1]? = some (.loop { rec .ready none with state := .busy }) := by rw [← hW2]; exact World.putObj_heap_same hsz
      have ho2 : ∀ k, k ≠ w.heap.size + 1 → W2.heap[k]? = W.heap[k]? := fun k hk => by rw [← hW2]; exact World.putObj_heap_other hk
      have hd2 : W2.heap[w.heap.size]? = some (.deferred (some [])) := (ho2 _ (by omega)).trans hD
      have hbl2 : Below B w0 W2 := hbl.trans ⟨by rw [← hW2]; rfl, by rw [← hW2]; rfl, by rw [← hW2]; rfl, by omega, fun b hb => ho2 b (by omega)⟩
      have hi2 : I k C W2 := hI k C W W2 hi (by rw [← hW2]; rfl) (by rw [← hW2]; rfl) (by rw [← hW2]; rfl) (by omega) (fun b hb => ho2 b (fun e => by subst e; exact hcl hb))
      rw [hW2]
      refine wpIn_mono (hbody _ k x C W2 hx hi2 (fun b hb => ⟨(hC b hb).1, by rw [hz2]; exact (hC b hb).2.1⟩) hbl2 (by omega)) ?_
      have fin : ∀ (jump : Option Code) (W3 : World), Moved C W2 W3 → ∃ W4, (Instr.endRound (w.heap.size + 1) jump).run P W3 = .ok (.bool jump.isNone) W4 ∧ W4.heap.size = W3.heap.size ∧
          W4.heap[w.heap.size + 1]? = some (.loop (rec (if jump.isNone then .ready else .done) jump)) ∧ W4.heap[w.heap.size]? = some (.deferred (some [])) ∧ (∀ k, k ≠ w.heap.size + 1 → W4.heap[k]? = W3.heap[k]?) ∧ W4.os = W3.os ∧ W4.tape = W3.tape ∧ W4.output = W3.output := fun jump W3 hm => by
        have hl3 := (hm.block (w.heap.size + 1) (by omega) hcl).trans hl2
        have hd3 := (hm.block w.heap.size (by omega) hcd).trans hd2
        have := run_endRound (P := P) jump hl3
        rw [hrec] at this ⊢
        have hz3 := hm.size
        refine ⟨_, this, by simp [World.putObj], World.putObj_heap_same (by omega), (World.putObj_heap_other (by omega)).trans hd3, fun k hk => World.putObj_heap_other hk, rfl, rfl, rfl⟩
      have keeps : ∀ (W3 W4 : World), Moved C W2 W3 → W4.heap.size = W3.heap.size → (∀ k, k ≠ w.heap.size + 1 → W4.heap[k]? = W3.heap[k]?) → W4.os = W3.os → W4.tape = W3.tape → W4.output = W3.output → Keeps B M W W4 := fun W3 W4 hm hz ho h1 h2 h3 => by
        refine ⟨h1.trans (hm.os.trans (by rw [← hW2]; rfl)), h2.trans (hm.tape.trans (by rw [← hW2]; rfl)), h3.trans (hm.output.trans (by rw [← hW2]; rfl)), by have := hm.size; omega, fun b hb hbm => ?_⟩
        have hbl' : b ≠ w.heap.size + 1 := by
          rintro rfl
          rcases hbm with h | h
          · omega
          · exact hl h
        have hbc : ¬ C b := fun hc => by
          rcases hbm with h | h
          · have := (hC b hc).1; omega
          · exact (hC b hc).2.2 h
        exact ((ho b hbl').trans (hm.block b (by omega) hbc)).trans (ho2 b hbl')
      have below : ∀ (W3 W4 : World), Moved C W2 W3 → W4.heap.size = W3.heap.size → (∀ k, k ≠ w.heap.size + 1 → W4.heap[k]? = W3.heap[k]?) → W4.os = W3.os → W4.tape = W3.tape → W4.output = W3.output → Below B w0 W4 := fun W3 W4 hm hz ho h1 h2 h3 =>
        hbl.trans ((keeps W3 W4 hm hz ho h1 h2 h3).below (by omega))
      rintro e a3 W3 hp
      cases e with
      | normal =>
        obtain ⟨C', hC', hi3, hm⟩ := hp
        obtain ⟨W4, hr, hz, hl4, hd4, ho, h1, h2, h3⟩ := fin none W3 hm
        refine ⟨_, W4, hr, .inl ⟨rfl, ⟨C', fun b hb => ⟨?_, ?_, ?_⟩, hMB, hl, hd, fun h => ?_, fun h => ?_, hI _ C' W3 W4 hi3 h1 h2 h3 (by omega) (fun b hb => ho b ?_), below W3 W4 hm hz ho h1 h2 h3, by have := hm.size; omega, hl4, hd4⟩, keeps W3 W4 hm hz ho h1 h2 h3⟩⟩
        · rcases hC' b hb with h | h
          · exact (hC b h).1
          · omega
        · rcases hC' b hb with h | h
          · have := (hC b h).2.1; have := hm.size; omega
          · omega
        · rcases hC' b hb with h | h
          · exact (hC b h).2.2
          · intro h'; have := hMlt b h'; omega
        · rcases hC' _ h with h | h
          · exact hcl h
          · omega
        · rcases hC' _ h with h | h
          · exact hcd h
          · omega
        · rintro rfl
          rcases hC' _ hb with h | h
          · exact hcl h
          · omega
      | ret =>
        obtain ⟨C', hC', hi3, hm⟩ := hp
        obtain ⟨W4, hr, hz, hl4, hd4, ho, h1, h2, h3⟩ := fin (some .ret) W3 hm
        refine ⟨_, W4, hr, .inr ⟨rfl, ⟨C', .ret, fun b hb => ⟨?_, ?_, ?_⟩, hMB, hl, hd, fun h => ?_, fun h => ?_, hIx _ C' W3 W4 hi3 h1 h2 h3 (by omega) (fun b hb => ho b ?_), below W3 W4 hm hz ho h1 h2 h3, by have := hm.size; omega, hl4, hd4⟩, keeps W3 W4 hm hz ho h1 h2 h3⟩⟩
        · rcases hC' b hb with h | h
          · exact (hC b h).1
          · omega
        · rcases hC' b hb with h | h
          · have := (hC b h).2.1; have := hm.size; omega
          · omega
        · rcases hC' b hb with h | h
          · exact (hC b h).2.2
          · intro h'; have := hMlt b h'; omega
        · rcases hC' _ h with h | h
          · exact hcl h
          · omega
        · rcases hC' _ h with h | h
          · exact hcd h
          · omega
        · rintro rfl
          rcases hC' _ hb with h | h
          · exact hcl h
          · omega
      | exit id =>
        obtain ⟨C', hC', hi3, hm⟩ := hp
        obtain ⟨W4, hr, hz, hl4, hd4, ho, h1, h2, h3⟩ := fin (some (.exit id)) W3 hm
        refine ⟨_, W4, hr, .inr ⟨rfl, ⟨C', .exit id, fun b hb => ⟨?_, ?_, ?_⟩, hMB, hl, hd, fun h => ?_, fun h => ?_, hIx _ C' W3 W4 hi3 h1 h2 h3 (by omega) (fun b hb => ho b ?_), below W3 W4 hm hz ho h1 h2 h3, by have := hm.size; omega, hl4, hd4⟩, keeps W3 W4 hm hz ho h1 h2 h3⟩⟩
        · rcases hC' b hb with h | h
          · exact (hC b h).1
          · omega
        · rcases hC' b hb with h | h
          · have := (hC b h).2.1; have := hm.size; omega
          · omega
        · rcases hC' b hb with h | h
          · exact (hC b h).2.2
          · intro h'; have := hMlt b h'; omega
        · rcases hC' _ h with h | h
          · exact hcl h
          · omega
        · rcases hC' _ h with h | h
          · exact hcd h
          · omega
        · rintro rfl
          rcases hC' _ hb with h | h
          · exact hcl h
          · omega
      | goto t => exact hp.elim
      | panic ch => exact hp.elim
      | outgrown => exact hp.elim
    · refine ⟨C0, fun b hb => ⟨(hC0 b hb).1, by have := (hC0 b hb).2.1; omega, (hC0 b hb).2.2⟩, fun b hb => (hM0 b hb).1, fun h => by have := (hM0 _ h).2; omega, fun h => by have := (hM0 _ h).2; omega, fun h => by have := (hC0 _ h).2.1; omega, fun h => by have := (hC0 _ h).2.1; omega,
        hI 0 C0 w W1 h0 hb1.os hb1.tape hb1.output hb1.size (fun b hb => hb1.block b (hC0 b hb).2.1), hB.trans (hb1.mono hBw), by omega, hL1, hK1⟩
    · rintro e W2 ⟨⟨v, rfl⟩, (⟨M, C, hC, hMB, hl, hd, hcl, hcd, hi, hbl, hsz, hL, hD⟩ | ⟨M, C, c, hC, hMB, hl, hd, hcl, hcd, hi, hbl, hsz, hL, hD⟩)⟩
      · have hend := run_endLoop (P := P) hL (by rw [hrec]; simp)
        rw [hrec] at hend
        refine ⟨none, _, hend, hdone _ C _ (hI _ C _ _ hi rfl rfl rfl (by simp [World.putObj]) (fun b hb => World.putObj_heap_other (fun e => by subst e; exact hcl hb))) (hbl.trans ⟨rfl, rfl, rfl, by simp [World.putObj], fun b hb => World.putObj_heap_other (by omega)⟩) ((World.putObj_heap_other (by omega)).trans hD) hBw (by simp [World.putObj]; omega) hcd⟩
      · have hend := run_endLoop (P := P) hL (by rw [hrec]; simp)
        rw [hrec] at hend
        refine ⟨some c, _, hend, hstop _ c C _ (hIx c C _ _ hi rfl rfl rfl (by simp [World.putObj]) (fun b hb => World.putObj_heap_other (fun e => by subst e; exact hcl hb))) (hbl.trans ⟨rfl, rfl, rfl, by simp [World.putObj], fun b hb => World.putObj_heap_other (by omega)⟩) ((World.putObj_heap_other (by omega)).trans hD) hBw (by simp [World.putObj]; omega) hcd⟩

/-- A function that holds such a loop returns: the block for deferred calls is taken. -/
theorem leave_mark {F : Fence} {n : Nat} {fn : Func} {tmps : Array Value} {R : Ending → World → Prop} {D : Nat} {w : World} (hD : w.heap[D]? = some (.deferred (some [])))
    (h : ∃ v, (results fn tmps).run P (w.putObj D (.deferred none)) = .ok v (w.putObj D (.deferred none)) ∧ R (.returned v) (w.putObj D (.deferred none))) :
    LeavesInM F n P fn tmps R [{ target := .collected D, args := #[] }] .returning w := by
  refine ⟨by simp, .inl ⟨_, _, rfl, run_takeDeferred hD, ?_⟩⟩
  exact h
theorem putObj_size (w : World) (D : Nat) (o : Obj) : (w.putObj D o).heap.size = w.heap.size := by simp [World.putObj]
theorem putObj_below {B D : Nat} {w0 w : World} (h : Below B w0 w) (hD : B ≤ D) (o : Obj) : Below B w0 (w.putObj D o) :=
  h.trans ⟨rfl, rfl, rfl, by simp [World.putObj], fun k hk => World.putObj_heap_other (by omega)⟩
theorem Blk.putObj {w : World} {g : Nat} {t : TypeId} {cs : Array Value} (h : Blk w g t cs) {D : Nat} (hD : g ≠ D) (o : Obj) : Blk (w.putObj D o) g t cs := (World.putObj_heap_other hD).trans h
theorem Own.putObj {w : World} {base : Nat} {e : TypeId} {size : Nat} {v : Value} {n : Nat} {xs : List Value} (h : Own w base e size v n xs) {D : Nat} (hD : v.ownBlock ≠ some D) (o : Obj) : Own (w.putObj D o) base e size v n xs :=
  h.same (fun b hb => World.putObj_heap_other (fun e => hD (by rw [hb, e])))
end Go.Proofs.Ytfnmpdohpbcegaa
