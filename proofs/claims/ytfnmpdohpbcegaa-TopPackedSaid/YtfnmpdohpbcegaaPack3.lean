/- pack.Text. -/
import Derived.Test.YtfnmpdohpbcegaaPack2
import Derived.Test.YtfnmpdohpbcegaaClip
namespace Go.Proofs.Ytfnmpdohpbcegaa
open Go Go.RowKit Go.ChangeShapes

/-- A text, packed. -/
def textP (l : List UInt8) : List UInt8 := numP l.length ++ l

set_option maxRecDepth 100000 in
set_option maxHeartbeats 4000000 in
theorem text_any {B B' : Nat} (A : Option Addr) (c : Nat) (bl : List UInt8) (A' : Option Addr) (S : ByteArray) (w : World) (hB : B ≤ w.heap.size) (hr : Reads w B 1 A bl.length (byteCells bl)) (hB' : B' ≤ w.heap.size) (hr' : Reads w B' 1 A' 1 [.string S])
    (hl : bl.length ≤ 800000) (hS : S.size ≤ 10000) :
    Calls Try.prog 55 #[.slice A bl.length c, .slice A' 1 1] w (RetBytes (bl ++ textP S.data.toList) w) := by
  obtain ⟨ad, u, rfl, _, hx, hc⟩ := hr'.at_ (k := 0) (by omega)
  obtain rfl : Value.string S = u := by simpa using hx
  have HR' := Lib.hid hr'
  clear hr' hx hc
  have hSl : S.data.toList.length = S.size := by simp
  have hnl : (numP S.size).length ≤ 10 := numP_ten (by omega)
  obtain ⟨f, hf⟩ : ∃ f : List UInt8, textP S.data.toList = f := ⟨_, rfl⟩
  rw [hf]
  have hf2 : f = numP S.size ++ S.data.toList := by rw [← hf]; unfold textP; rw [hSl]
  have HF := Lib.hid hf2
  clear hf hf2
  go_enter Try.func55, Try.ntmps55
  go_wp2_with fail
  refine (num_none A c bl w hB hr (by omega)).mono ?_
  rintro e w1 ⟨A1, rfl, hr1, hb1, hf1⟩
  have HR1 := Lib.hid hr1
  clear hr1 hr
  go_wp2_with fail
  go_loopw [0, 11] (fun v i w' => ∃ (k : Nat) (A2 : Option Addr) (p2 : List UInt8), k ≤ 1 ∧ i = .int .i64 k ∧ v = .slice A2 p2.length p2.length ∧ p2 = (if k = 0 then bl else bl ++ f) ∧ Reads w' w'.heap.size 1 A2 p2.length (byteCells p2) ∧ Below w.heap.size w w' ∧ Fresh w A2) (fun _ i _ => 1 - (intOf i).toNat)
  case atStart => exact ⟨0, A1, bl, by omega, rfl, rfl, rfl, HR1.out, hb1, hf1⟩
  case round =>
    obtain ⟨k, A2, p2, hk, rfl, rfl, hp, hr2, hb, hfr⟩ := hrel
    have HR2 := Lib.hid hr2
    clear hr2
    by_cases hlt : k < 1
    · obtain rfl : k = 0 := by omega
      have hc := (HR'.out.below (hb.mono hB')).2 (by omega)
      obtain ⟨ad', he, _, hc⟩ := hc
      obtain rfl : ad = ad' := by simpa using he
      have hc := hc 0 _ rfl
      rw [Addr.add_zero'] at hc
      obtain rfl : p2 = bl := by simpa using hp
      clear hp hSl
      go_wp2_with fail
      refine (num_new A2 _ _ S.size _ (Nat.le_refl _) HR2.out (by omega) (by omega)).mono ?_
      rintro e w4 ⟨A4, rfl, hr4, hb4, hf4⟩
      have hb5 := hb.trans (hb4.mono hb.size)
      have HB5 := Lib.hid hb5
      clear hb4 hb5
      obtain ⟨q, hq⟩ : ∃ q, q = p2 ++ numP S.size := ⟨_, rfl⟩
      rw [← hq] at hr4 ⊢
      have hql : q.length ≤ 800010 := by rw [hq, List.length_append]; omega
      have HQ := Lib.hid hq
      clear hq
      go_wp2_with (at_builtin; refine app_clip rfl (.tmp 20) (.tmp 21) rfl A4 _ _ rfl hr4 (Nat.le_refl _) S rfl ?c1 ?_)
      case c1 => omega
      intro A6 c6 w6 hr6 hb6
      have hsz : q.length + S.size = (q ++ S.data.toList).length := by simp
      rw [hsz] at hr6 ⊢
      have hb7 := HB5.out.trans (hb6.mono HB5.out.size)
      have HB7 := Lib.hid hb7
      have he2 : q ++ S.data.toList = p2 ++ f := by rw [HQ.out, HF.out, List.append_assoc]
      rw [he2] at hr6 ⊢
      have hfl : f.length ≤ 10010 := by rw [HF.out, List.length_append]; simp; omega
      obtain ⟨q2, hq2⟩ : ∃ q2, q2 = p2 ++ f := ⟨_, rfl⟩
      rw [← hq2] at hr6 ⊢
      have hq2l : q2.length ≤ 900000 := by rw [hq2, List.length_append]; omega
      have HQ2 := Lib.hid hq2
      have HR6 := Lib.hid hr6
      clear hq2 hb6 hb7 he2 hsz hr4 hr6
      go_wp2_with fail
      refine (num_none A6 c6 q2 _ (Nat.le_refl _) HR6.out (by omega)).mono ?_
      rintro e w8 ⟨A8, rfl, hr8, hb8, hf8⟩
      have HR8 := Lib.hid hr8
      have hb9 := HB7.out.trans (hb8.mono HB7.out.size)
      clear hr8
      go_wp2_with fail
      go_roundw
      case rel => exact ⟨1, A8, q2, by omega, rfl, rfl, HQ2.out, HR8.out, hb9, hf8.mono HB7.out.size⟩
      case measure => simp [intOf]
    · obtain rfl : k = 1 := by omega
      have HP := Lib.hid hp
      clear hp
      go_wp2_with fail
      go_ret
      refine ⟨A2, ?_⟩
      have h1 : p2 = bl ++ f := by simpa using HP.out
      rw [← h1]
      exact ⟨rfl, HR2.out, hb, hfr⟩
end Go.Proofs.Ytfnmpdohpbcegaa
