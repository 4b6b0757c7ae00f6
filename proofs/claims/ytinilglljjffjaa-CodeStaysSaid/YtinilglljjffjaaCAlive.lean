/- The walk of the law of code's alive. -/
import Derived.Test.YtinilglljjffjaaCR4
namespace Go.Proofs.Ytinilglljjffjaa.Cd
set_option linter.unusedVariables false
set_option linter.unusedSimpArgs false
open Go.RowKit
open Go.Proofs.Ytinilglljjffjaa.Num

theorem below_of_turn {B g : Nat} {v v' : Value} {l : List UInt8} {T : TypeId} {w W W' : World} (hb : Below B w W) (hw : Wst B T g v l W) (hB : B ≤ g) (ht : Turn g v v' W W') : Below B w W' := hb.trans (ht.below hw hB)
def aliveL : List UInt8 := [172, 2, 1, 2, 97, 98]
theorem alive_put : (([] ++ short 300) ++ [tF true]) ++ textF [97, 98] = aliveL := by decide
theorem alive_get1 : fieldF 0 (readF 300) aliveL ⟨0, 0, 0⟩ = (300, ⟨2, 0, 0⟩) := by rfl
theorem alive_get2 : fieldF false truthF aliveL ⟨2, 0, 0⟩ = (true, ⟨3, 0, 0⟩) := by rfl
theorem alive_get3 : fieldF [] (textR (2 : Int).toNat) aliveL ⟨3, 0, 0⟩ = ([97, 98], ⟨6, 0, 0⟩) := by rfl
theorem alive_end : endF aliveL ⟨6, 0, 0⟩ = ⟨6, 0, 0⟩ := by rfl
set_option maxHeartbeats 2000000 in
set_option maxRecDepth 100000 in
theorem alive_calls (W : World) : Calls Try.prog 9 #[] W fun e W' => e = .returned (.bool true) ∧ Below W.heap.size W W' := by
  have hbx : Boxed (W.alloc (.cells #[.slice none 0 0] 27)) W.heap.size 27 (.slice none 0 0) := Boxed.new W 27 (.slice none 0 0)
  have hws : Wst W.heap.size 27 W.heap.size (.slice none 0 0) [] (W.alloc (.cells #[.slice none 0 0] 27)) := ⟨hbx, Own8.nil _ _ _⟩
  have G := Lib.hid (And.intro hws (below_alloc1 W (.cells #[.slice none 0 0] 27)))
  clear hbx hws
  go_enter Try.func9, Try.ntmps9
  go_wp2_with fail
  generalize W.alloc (.cells #[.slice none 0 0] 27) = W0 at G ⊢
  refine (num_calls W.heap.size W.heap.size _ _ 300 (by decide) W0 G.out.1 (Nat.le_refl _) (by decide)).mono ?_
  rintro e W1 ⟨rfl, v1, hw1, ht1⟩
  have H1 := Lib.hid (And.intro hw1 (below_of_turn G.out.2 G.out.1 (Nat.le_refl _) ht1))
  clear hw1 ht1
  go_wp2_with fail
  refine (bool_calls W.heap.size W.heap.size _ _ true W1 H1.out.1 (Nat.le_refl _) (by decide)).mono ?_
  rintro e W2 ⟨rfl, v2, hw2, ht2⟩
  have H2 := Lib.hid (And.intro hw2 (below_of_turn H1.out.2 H1.out.1 (Nat.le_refl _) ht2))
  clear hw2 ht2
  go_wp2_with fail
  refine (text_calls W.heap.size W.heap.size _ _ [97, 98] W2 H2.out.1 (Nat.le_refl _) (by decide)).mono ?_
  rintro e W3 ⟨rfl, v3, hw3, ht3⟩
  rw [alive_put] at hw3
  have H3 := Lib.hid (And.intro hw3 (below_of_turn H2.out.2 H2.out.1 (Nat.le_refl _) ht3))
  have hlt := hw3.box.lt
  clear hw3 ht3
  go_wp2_with fail
  refine (bytes_calls _ _ v3 _ W3 H3.out.1 (by decide)).mono ?_
  rintro e W4 ⟨v4, rfl, ho4, hb4⟩
  obtain ⟨A4, c4, rfl, hr4, _, _, hn4⟩ := ho4.row
  have H4 := Lib.hid (And.intro hr4 (And.intro (H3.out.2.trans (hb4.mono (by omega))) (H3.out.1.below hb4)))
  have hs4 := hb4.size
  clear hr4 ho4 hb4
  go_wp2_with fail
  refine (new_calls A4 c4 _ W4 H4.out.1 hn4 (by decide)).mono ?_
  rintro e W5 ⟨g2, A5, c5, rfl, hr5, hb5, hg2⟩
  have hs5 := hb5.size
  have H5 := Lib.hid (And.intro hr5 (And.intro (H4.out.2.1.trans (hb5.mono (by omega))) (H4.out.2.2.below hb5)))
  clear hr5 hb5
  go_wp2_with fail
  refine (bytes_calls _ _ v3 _ W5 H5.out.2.2 (by decide)).mono ?_
  rintro e W6 ⟨v6, rfl, ho6, hb6⟩
  obtain ⟨A6, c6, rfl, hr6, _, _, hn6⟩ := ho6.row
  have hb7 := hb6.alloc hb6.size (.cells #[.int .u8 172, .int .u8 2, .int .u8 1, .int .u8 2, .int .u8 97, .int .u8 98] 5)
  have hr7 : Row8 (W6.alloc (.cells #[.int .u8 172, .int .u8 2, .int .u8 1, .int .u8 2, .int .u8 97, .int .u8 98] 5)) (some ⟨W6.heap.size, 0, none⟩) aliveL := Row8.lit (heap_alloc_new _ _) rfl
  have hs6 := hb6.size
  have H7 := Lib.hid (And.intro (hr6.below (below_alloc1 W6 (.cells #[.int .u8 172, .int .u8 2, .int .u8 1, .int .u8 2, .int .u8 97, .int .u8 98] 5))) (And.intro hr7 (And.intro (H5.out.1.below hb7) (H5.out.2.1.trans (hb7.mono (by omega))))))
  have hs7 : W6.heap.size < (W6.alloc (.cells #[.int .u8 172, .int .u8 2, .int .u8 1, .int .u8 2, .int .u8 97, .int .u8 98] 5)).heap.size := by simp
  clear hr6 ho6 hb6 hb7 hr7
  go_wp2_with fail
  generalize hgb : W6.heap.size = gb at H7 hs7 hs6 ⊢
  generalize W6.alloc (.cells #[.int .u8 172, .int .u8 2, .int .u8 1, .int .u8 2, .int .u8 97, .int .u8 98] 5) = W7 at H7 hs7 ⊢
  refine (same_calls A6 c6 aliveL (some ⟨gb, 0, none⟩) 6 aliveL W7 H7.out.1 H7.out.2.1).mono ?_
  rintro e W8 ⟨rfl, rfl⟩
  have hd : decide (aliveL = aliveL) = true := by decide
  rw [hd]
  go_wp2_with fail
  have h8 := rnum_calls g2 A5 c5 aliveL ⟨0, 0, 0⟩ 300 (by decide) W7 H7.out.2.2.1
  rw [alive_get1] at h8
  refine h8.mono ?_
  rintro e W9 ⟨rfl, hr9, hb9⟩
  have hs9 := hb9.size
  have H9 := Lib.hid (And.intro hr9 (H7.out.2.2.2.trans (hb9.below (by omega) (by omega))))
  clear h8 hr9 hb9
  go_wp2_with fail
  have h8 := rbool_calls g2 A5 c5 aliveL ⟨2, 0, 0⟩ W9 H9.out.1
  rw [alive_get2] at h8
  refine h8.mono ?_
  rintro e W10 ⟨rfl, hr9, hb9⟩
  have hs10 := hb9.size
  have H10 := Lib.hid (And.intro hr9 (H9.out.2.trans (hb9.below (by omega) (by omega))))
  clear h8 hr9 hb9
  go_wp2_with fail
  have h8 := rtext_calls g2 A5 c5 aliveL ⟨3, 0, 0⟩ 2 (by decide) (by decide) W10 H10.out.1
  rw [alive_get3] at h8
  refine h8.mono ?_
  rintro e W11 ⟨rfl, hr9, hb9⟩
  have hs11 := hb9.size
  have H11 := Lib.hid (And.intro hr9 (H10.out.2.trans (hb9.below (by omega) (by omega))))
  clear h8 hr9 hb9
  have hun : undef = Value.tuple #[] := rfl
  have htx : txt [97, 98] = { data := #[97, 98] } := rfl
  rw [htx]
  go_wp2_with fail
  have h8 := end_calls g2 A5 c5 aliveL ⟨6, 0, 0⟩ W11 H11.out.1
  rw [alive_end] at h8
  refine h8.mono ?_
  rintro e W12 ⟨rfl, hr9, hb9⟩
  have H12 := Lib.hid (H11.out.2.trans (hb9.below (by omega) (by omega)))
  clear h8 hr9 hb9
  go_wp2_with fail
  go_ret
  exact ⟨rfl, H12.out⟩
end Go.Proofs.Ytinilglljjffjaa.Cd
