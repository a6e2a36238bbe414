/- frame.Scan. -/
import Derived.Test.YtfnmpdohpbcegaaTexts
import Derived.Test.YtfnmpdohpbcegaaOwnIn
namespace Go.Proofs.Ytfnmpdohpbcegaa
open Go Go.RowKit Go.Shelf
attribute [local go_sem] Oper.semAt_some

theorem texts_any (S : ByteArray) (w : World) :
    Calls Try.prog 140 #[.string S] w fun e w' => e = .returned (.func (.func 204) #[] #[.pointer (some ⟨w.heap.size, 0, none⟩)]) ∧ w.alloc (.cells #[.string S] 9) = w' := by
  go_enter Try.func140, Try.ntmps140
  go_wp2
  go_ret
  exact ⟨rfl, rfl⟩

def strs (l : List (List UInt8)) : List Value := l.map fun x => .string (bs x)
theorem strs_one (l : List (List UInt8)) : ∀ u ∈ strs l, u.oneCell' = true := by
  intro u hu
  simp only [strs, List.mem_map] at hu
  obtain ⟨_, _, rfl⟩ := hu
  rfl
theorem elStr : El Try.prog 25 9 (.string ⟨#[]⟩) 1 16 := El.mk_ Try.underlying25 info9 rfl

/-- Between two rounds of Scan: two variables, and the strings so far. -/
def ScanI (b1 b2 base : Nat) (xs : List (List UInt8)) (k : Nat) (C : Nat → Prop) (w : World) : Prop :=
  ∃ v, Blk w b1 25 #[v] ∧ Blk w b2 3 #[.int .i64 ((costN (xs.take k) : Nat) : Int)] ∧ Own w base 9 1 v (xs.take k).length (strs (xs.take k)) ∧ C b1 ∧ C b2 ∧ (∀ b, v.ownBlock = some b → C b) ∧ (∀ b, C b → b = b1 ∨ b = b2 ∨ v.ownBlock = some b)
theorem ScanI.frames (b1 b2 base : Nat) (xs : List (List UInt8)) (k : Nat) : Frames (ScanI b1 b2 base xs k) := by
  rintro C W W' ⟨v, h1, h2, h3, c1, c2, c3, c4⟩ _ _ _ _ hs
  exact ⟨v, (hs _ c1).trans h1, (hs _ c2).trans h2, h3.same (fun b hb => hs b (c3 b hb)), c1, c2, c3, c4⟩

theorem scan_frames_le (l : List UInt8) : costN (scanN l) ≤ l.length := by
  induction hn : l.length using Nat.strongRecOn generalizing l with
  | ind n ih =>
    cases hf : frameN l with
    | none => rw [scanN_none hf]; simp [costN]
    | some m =>
      have h1 := frameN_le hf
      have h2 := ih (l.drop (m + 20)).length (by simp; omega) (l.drop (m + 20)) rfl
      rw [scanN_some hf]
      simp only [costN, List.map_cons, List.sum_cons, textN_length hf] at h2 ⊢
      simp at h2
      omega

theorem costN_append (a b : List (List UInt8)) : costN (a ++ b) = costN a + costN b := by
  unfold costN
  rw [List.map_append, List.sum_append]
theorem costN_take (l : List (List UInt8)) (k : Nat) {x : List UInt8} (h : l[k]? = some x) : costN (l.take (k + 1)) = costN (l.take k) + (x.length + 20) := by
  obtain ⟨hk, rfl⟩ := List.getElem?_eq_some_iff.1 h
  rw [List.take_succ_eq_append_getElem hk, costN_append]
  simp [costN]
theorem costN_le (l : List (List UInt8)) (k : Nat) : costN (l.take k) ≤ costN l := by
  conv => rhs; rw [← List.take_append_drop k l]
  rw [costN_append]
  omega
theorem costN_ge (l : List (List UInt8)) : 20 * l.length ≤ costN l := by
  induction l with
  | nil => simp
  | cons a l ih => simp only [costN, List.map_cons, List.sum_cons, List.length_cons] at ih ⊢; omega
theorem strs_take (l : List (List UInt8)) (k : Nat) {x : List UInt8} (h : l[k]? = some x) : strs (l.take (k + 1)) = strs (l.take k) ++ [.string (bs x)] := by
  obtain ⟨hk, rfl⟩ := List.getElem?_eq_some_iff.1 h
  unfold strs
  rw [List.take_succ_eq_append_getElem hk, List.map_append]
  rfl

set_option maxRecDepth 100000 in
set_option maxHeartbeats 1000000 in
theorem scan_any (S : ByteArray) (w : World) (hS : S.size ≤ 140737488351232) :
    Calls Try.prog 41 #[.string S] w fun e w' => ∃ A c, e = .returned (.tuple #[.slice A (scanN S.data.toList).length c, .int .i64 ((costN (scanN S.data.toList) : Nat) : Int)]) ∧ Reads w' w'.heap.size 1 A (scanN S.data.toList).length (strs (scanN S.data.toList)) ∧ Below w.heap.size w w' := by
  refine (callsIn_wide (n := 0)).1 ?_
  refine callsIn_of_wp_marks Try.func41 rfl trivial ?_ rfl
  simp only [Try.ntmps41, List.size_toArray, List.length_cons, List.length_nil, Nat.reduceAdd, Nat.reduceSub, Array.replicate_succ, Array.replicate_zero, List.push_toArray, List.append_toArray, List.nil_append, List.cons_append]
  gi_wp2
  refine ⟨trivial, rfl, (callsIn_wide.2 (texts_any _ _)).mono ?_⟩
  rintro e w1 ⟨rfl, rfl⟩
  gi_wp2
  have hbx : Blk (((w.alloc (.cells #[.slice none 0 0] 25)).alloc (.cells #[.int .i64 0] 3)).alloc (.cells #[.string S] 9)) (w.heap.size + 1 + 1) 9 #[.string S] := by
    have := Blk.new ((w.alloc (.cells #[.slice none 0 0] 25)).alloc (.cells #[.int .i64 0] 3)) 9 #[.string S]
    simpa using this
  refine wp_range (gf := 204) (lb := #[.pointer (some ⟨w.heap.size + 1 + 1, 0, none⟩)]) rfl (fun args w => by kernel_rfl)
    (texts1_iter S w.heap.size (w.heap.size + 1 + 1) _ hS hbx) (fun _ => rfl) (fun b hb => by subst hb; simp; omega) (w0 := w)
    ((((Below.refl _ w).alloc (Nat.le_refl _) _).alloc (by simp) _).alloc (by simp; omega) _) (by simp; omega)
    (ScanI w.heap.size (w.heap.size + 1) w.heap.size (scanN S.data.toList)) (fun _ _ _ => False) (fun k => ScanI.frames _ _ _ _ k) (fun _ _ _ _ h => h.elim)
    (fun b => b = w.heap.size ∨ b = w.heap.size + 1) (fun b hb => by rcases hb with rfl | rfl <;> simp <;> omega) ?start
    (fun x => { tmps := #[.string S, undef, .pointer (some ⟨w.heap.size, 0, none⟩), .pointer (some ⟨w.heap.size + 1, 0, none⟩), .string (bs x), .string S, .func (.func 204) #[] #[.pointer (some ⟨w.heap.size + 1 + 1, 0, none⟩)], .string (bs x), undef, undef, undef, undef, undef, undef, undef, undef, undef, undef, undef, undef, undef, undef, undef, undef], defers := [] }) ?assign ?body ?done ?stop
  case start =>
    refine ⟨.slice none 0 0, ?_, ?_, Own.nil_ _ _ _ _, Or.inl rfl, Or.inr rfl, fun b hb => by simp [Value.ownBlock] at hb, fun b hb => by rcases hb with h | h <;> simp [h]⟩
    · exact ((Blk.new w 25 #[.slice none 0 0]).alloc _).alloc _
    · have := (Blk.new (w.alloc (.cells #[.slice none 0 0] 25)) 3 #[.int .i64 0]).alloc (.cells #[.string S] 9)
      simpa [costN] using this
  case assign =>
    intro l x W K hK
    gi_wp2
    exact hK
  case body =>
    rintro l k x C W hx ⟨v, h1, h2, h3, c1, c2, c3, c4⟩ hC hb hB
    have hne1 := h3.ne_blk h1 (by decide)
    have hne2 := h3.ne_blk h2 (by decide)
    have hk : k < (scanN S.data.toList).length := (List.getElem?_eq_some_iff.1 hx).1
    have hlk : ((scanN S.data.toList).take k).length = k := by simp; omega
    have hcost := scan_frames_le S.data.toList
    rw [toList_size] at hcost
    have hcx := costN_take _ _ hx
    have hcl := costN_le (scanN S.data.toList) (k + 1)
    have hsx := strs_take _ _ hx
    have hlen : (bs x).size = x.length := by show x.toArray.size = _; simp
    have hke : 20 * k ≤ costN ((scanN S.data.toList).take k) := by
      have := costN_ge ((scanN S.data.toList).take k)
      rw [hlk] at this
      exact this
    have hd1 := h1.cell 0
    have hd2 := h2.cell 0
    have hf1 := h1.frozen 0
    have hf2 := h2.frozen 0
    simp only [List.getElem?_toArray, List.getElem?_cons_zero] at hd1 hd2
    rw [hlk] at h3
    generalize hce : costN ((scanN S.data.toList).take k) = cst at *
    have H1 := Lib.hid h1
    have H2 := Lib.hid h2
    have H3 := Lib.hid h3
    have HS := Lib.hid hsx
    have HCX := Lib.hid hcx
    have HCE := Lib.hid hce
    have HL := Lib.hid hlen
    have hx1 : x.length + cst + 20 ≤ 140737488351232 := by omega
    clear h1 h2 h3 hsx hcx hce hlen hlk hcl hcost
    gi_wp2_with (gi_at_builtin; refine appIn rfl (.tmp 8) (.tmp 10) elStr rfl w.heap.size v k _ rfl (H3.out.alloc _) _ 1 [.string (bs x)] rfl (Gives.of_reads (Reads.new _ _ 9 1 1 rfl)) (strs_one [x]) ?c1 ?c2 ?c3 ?_)
    case c1 => unfold maxLen; omega
    case c2 => omega
    case c3 => simp; omega
    intro v' w' hown hg hv hnil
    obtain ⟨g', cap', rfl, hg1, hg2⟩ := hown.succ
    have hb1 := (H1.out.alloc (.cells #[.string (bs x)] 9)).grown hg (fun e => hne1 e.symm)
    have hb2 := (H2.out.alloc (.cells #[.string (bs x)] 9)).grown hg (fun e => hne2 e.symm)
    have hne3 := hown.ne_blk hb1 (by decide)
    have hne4 := hown.ne_blk hb2 (by decide)
    have hd1' := hb1.cell 0
    have hf1' := hb1.frozen 0
    have hb2' := hb2.far (p := ⟨w.heap.size, 0, none⟩) (by simp) (.slice (some ⟨g', 0, none⟩) (k + 1) cap')
    have hd2' := hb2'.cell 0
    have hf2' := hb2'.frozen 0
    simp only [List.getElem?_toArray, List.getElem?_cons_zero] at hd1' hd2'
    have HO := Lib.hid hown
    have HG := Lib.hid hg
    have HB1 := Lib.hid hb1
    have HB2 := Lib.hid hb2'
    clear hown hg hb1 hb2 hb2' hnil hd1 hf1 hd2 hf2
    gi_wp2
    have hmix : Try.prog.follows .mixedOrders = true := by kernel_rfl
    gi_region_with_o (refine ⟨trivial, rfl, ?_⟩; gi_at_call 47; refine (CallsIn.inRound l ((callsIn_wide (n := 0)).2 (cost_any _ _ (by rw [HL.out]; omega)))).mono ?_; rintro e w5 ⟨rfl, rfl⟩)
    all_goals
      have hwr : IntKind.i64.wrap ((cst : Int) + (((bs x).size : Int) + 20)) = ((costN ((scanN S.data.toList).take (k + 1)) : Nat) : Int) := by
        rw [HCX.out, HL.out, IntKind.wrap_i64]; omega
      rw [hwr]
      gi_wp2
      have hm : Moved C W (((w'.setCell ⟨w.heap.size, 0, none⟩ (.slice (some ⟨g', 0, none⟩) (k + 1) cap')).setCell ⟨w.heap.size + 1, 0, none⟩ (.int .i64 ((costN ((scanN S.data.toList).take (k + 1)) : Nat) : Int))).drew) :=
        ((((((Moved.refl C W).alloc (.cells #[.string (bs x)] 9)).grown HG.out (fun b hb => Or.inl (c3 b hb))).setCell (p := ⟨w.heap.size, 0, none⟩) (Or.inl c1) _).setCell (p := ⟨w.heap.size + 1, 0, none⟩) (Or.inl c2) _).drew)
      refine ⟨fun b => b = w.heap.size ∨ b = w.heap.size + 1 ∨ b = g', ?_, ⟨.slice (some ⟨g', 0, none⟩) (k + 1) cap', ?_, ?_, ?_, Or.inl rfl, Or.inr (Or.inl rfl), fun b hb => by simp [Value.ownBlock] at hb; exact Or.inr (Or.inr hb.symm), fun b hb => ?_⟩, hm⟩
      · rintro b (rfl | rfl | rfl)
        · exact Or.inl c1
        · exact Or.inl c2
        · rcases hv with h | h
          · exact Or.inl (c3 _ (by rw [← h]; rfl))
          · have hg3 : b = W.heap.size + 1 := by simpa [Value.ownBlock] using h
            have := hm.size
            exact Or.inr ⟨by omega, by simp [World.setCell]; omega⟩
      · exact ((HB1.out.set_ 0 (.slice (some ⟨g', 0, none⟩) (k + 1) cap')).far (p := ⟨w.heap.size + 1, 0, none⟩) (by simp) _).drew
      · exact (HB2.out.set_ 0 _).drew
      · have hl2 : ((scanN S.data.toList).take (k + 1)).length = k + 1 := by simp; omega
        rw [HS.out, hl2]
        exact ((HO.out.far (p := ⟨w.heap.size, 0, none⟩) hne3 _).far (p := ⟨w.heap.size + 1, 0, none⟩) hne4 _).drew
      · rcases hb with h | h | h
        · exact Or.inl h
        · exact Or.inr (Or.inl h)
        · exact Or.inr (Or.inr (by rw [h]; rfl))
  case done =>
    rintro D C W ⟨v, h1, h2, h3, c1, c2, c3, c4⟩ hb hD hBD hB hCD
    rw [List.take_length] at h2 h3
    have hcost := scan_frames_le S.data.toList
    rw [toList_size] at hcost
    have hlen := costN_ge (scanN S.data.toList)
    obtain ⟨A, c, rfl, hr⟩ := h3.reads
    have hd1 := h1.cell 0
    have hd2 := h2.cell 0
    have hf1 := h1.frozen 0
    have hf2 := h2.frozen 0
    simp only [List.getElem?_toArray, List.getElem?_cons_zero] at hd1 hd2
    generalize hxs : scanN S.data.toList = xs at *
    have HXS := Lib.hid hxs
    clear hxs
    have hc : xs.length ≤ c := h3.cap_le
    have hne1 := h3.ne_blk h1 (by decide)
    have hne2 := h3.ne_blk h2 (by decide)
    have hne5 : (Value.slice A xs.length c).ownBlock ≠ some D := fun e => hCD (c3 D e)
    have hD1 : D ≠ w.heap.size := fun e => hCD (by rw [e]; exact c1)
    have hD2 : D ≠ w.heap.size + 1 := fun e => hCD (by rw [e]; exact c2)
    have H1 := Lib.hid h1
    have H2 := Lib.hid h2
    have HR := Lib.hid hr
    have H3 := Lib.hid h3
    have HD := Lib.hid hD
    clear h1 h2 h3 hr hD hbx
    gi_wp2
    refine wpIn_wide.2 ?_
    go_region
    go_wp2_with fail
    gi_wp2
    have hb1 := ((H1.out.set_ 0 (.slice A xs.length xs.length)).far (p := ⟨w.heap.size + 1, 0, none⟩) (by simp) (.int .i64 ((costN xs : Nat) : Int))).drew
    have hb2 := ((H2.out.far (p := ⟨w.heap.size, 0, none⟩) (by simp) (.slice A xs.length xs.length)).set_ 0 (.int .i64 ((costN xs : Nat) : Int))).drew
    have hD3 := (Below.heap_setCell (W.setCell ⟨w.heap.size, 0, none⟩ (.slice A xs.length xs.length)) ⟨w.heap.size + 1, 0, none⟩ (.int .i64 ((costN xs : Nat) : Int)) D hD2).trans ((Below.heap_setCell W ⟨w.heap.size, 0, none⟩ (.slice A xs.length xs.length) D hD1).trans HD.out)
    have hq0 := (hb1.putObj (fun e => hD1 e.symm) (.deferred none)).cell 0
    have hq1 := (hb2.putObj (fun e => hD2 e.symm) (.deferred none)).cell 0
    have ho := (((H3.out.far (p := ⟨w.heap.size, 0, none⟩) hne1 (.slice A xs.length xs.length)).far (p := ⟨w.heap.size + 1, 0, none⟩) hne2 (.int .i64 ((costN xs : Nat) : Int))).drew).putObj hne5 (.deferred none)
    obtain ⟨A', c', he, hr⟩ := ho.reads
    injection he with h1 h2 h3
    subst h1
    simp only [List.setIfInBounds_toArray, List.set_cons_zero, List.getElem?_toArray, List.getElem?_cons_zero] at hq0 hq1
    refine leave_mark hD3 ⟨.tuple #[.slice A xs.length xs.length, .int .i64 ((costN xs : Nat) : Int)], by simp [results, Try.results41, go_sem, hq0, hq1], A, xs.length, by rw [HXS.out], by rw [HXS.out]; exact hr, ?_⟩
    exact putObj_below ((hb.setCell (p := ⟨w.heap.size, 0, none⟩) (Nat.le_refl _) _).setCell (p := ⟨w.heap.size + 1, 0, none⟩) (by simp) _).drew hBD _
  case stop =>
    rintro D c C W h
    exact h.elim
end Go.Proofs.Ytfnmpdohpbcegaa
