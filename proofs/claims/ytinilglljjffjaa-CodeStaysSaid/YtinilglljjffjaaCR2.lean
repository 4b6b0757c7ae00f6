/- The walks of the program's reader: a truth, a text. -/
import Derived.Test.YtinilglljjffjaaCR
import Derived.Test.YtinilglljjffjaaCW2
namespace Go.Proofs.Ytinilglljjffjaa.Cd
set_option linter.unusedVariables false
set_option linter.unusedSimpArgs false
open Go.RowKit
open Go.Proofs.Ytinilglljjffjaa.Num

/-- A truth. -/
def truthF : List UInt8 → Bool × Nat × Nat
  | [] => (false, 0, 4)
  | x :: _ => (decide (x.toNat = 1), 1, if 1 < x.toNat then 3 else 0)
theorem truth_fits (l : List UInt8) : (truthF l).2.1 ≤ l.length ∧ (truthF l).2.2 ≤ 17 := by
  cases l with
  | nil => exact ⟨by decide, by decide⟩
  | cons x xs =>
    refine ⟨by simp [truthF], ?_⟩
    unfold truthF
    simp only
    split <;> omega
theorem truth_calls (A : Option Addr) (c : Nat) (l : List UInt8) (W : World) (hr : Row8 W A l) (hm : l.length ≤ 9223372036854775807) :
    Calls Try.prog 47 #[.slice A l.length c] W fun e W' => e = .returned (.tuple #[.bool (truthF l).1, .int .i64 ((truthF l).2.1 : Int), .int .i64 ((truthF l).2.2 : Int)]) ∧ W = W' := by
  have h1 := one_calls A c l W hr hm
  obtain ⟨R, hR⟩ : ∃ R, R = oneF l := ⟨_, rfl⟩
  have hT : truthF l = (decide (R.1 = 1), R.2.1, if 1 < R.1 then 3 else R.2.2) := by
    subst hR
    cases l with
    | nil => rfl
    | cons x xs => rfl
  rw [← hR] at h1
  rw [hT]
  have G := Lib.hid h1
  clear h1 hR hT hr
  obtain ⟨n, k, y⟩ := R
  simp only at G ⊢
  by_cases hn : 1 < n
  · have hd : decide (n = 1) = false := by rw [decide_eq_false_iff_not]; omega
    have hi : ((n : Int) == 1) = false := by rw [beq_eq_false_iff_ne]; omega
    rw [if_pos hn, hd]
    go_enter Try.func47, Try.ntmps47
    go_wp2_with fail
    refine G.out.mono ?_
    rintro e W2 ⟨rfl, rfl⟩
    go_wp2_with fail
    go_ret3
    exact ⟨rfl, rfl⟩
  · have hd : decide (n = 1) = ((n : Int) == 1) := by
      by_cases h : n = 1
      · subst h; rfl
      · rw [decide_eq_false h]; symm; rw [beq_eq_false_iff_ne]; omega
    rw [if_neg hn, hd]
    go_enter Try.func47, Try.ntmps47
    go_wp2_with fail
    refine G.out.mono ?_
    rintro e W2 ⟨rfl, rfl⟩
    go_wp2_with fail
    go_ret3
    exact ⟨rfl, rfl⟩
/-- A text, at most so long. -/
def textG (l : List UInt8) (R : Nat × Nat × Nat) : List UInt8 × Nat × Nat := if R.2.2 = 0 then (if l.length - R.2.1 < R.1 then ([], 0, 4) else ((l.drop R.2.1).take R.1, R.2.1 + R.1, 0)) else ([], 0, R.2.2)
def textR (most : Nat) (l : List UInt8) : List UInt8 × Nat × Nat := textG l (readF most l)
theorem textR_fits (most : Nat) (l : List UInt8) : (textR most l).2.1 ≤ l.length ∧ (textR most l).2.2 ≤ 17 := by
  have h := read_fits most l
  unfold textR textG
  split
  · split
    · exact ⟨Nat.zero_le _, by decide⟩
    · refine ⟨?_, Nat.zero_le _⟩
      show (readF most l).2.1 + (readF most l).1 ≤ l.length
      omega
  · exact ⟨Nat.zero_le _, h.2⟩
set_option maxHeartbeats 1000000 in
set_option maxRecDepth 100000 in
theorem ltext_calls (most : Nat) (hmost : most < 18446744073709551616) (A : Option Addr) (c : Nat) (l : List UInt8) (W : World) (hr : Row8 W A l) (hm : l.length ≤ 9223372036854775807) (hc : l.length ≤ c) :
    Calls Try.prog 49 #[.int .u64 (most : Int), .slice A l.length c] W fun e W' => e = .returned (.tuple #[.string (txt (textR most l).1), .int .i64 ((textR most l).2.1 : Int), .int .i64 ((textR most l).2.2 : Int)]) ∧ W = W' := by
  have h1 := read_calls most hmost A c l W hr hm
  have hf := (read_fits most l).1
  have hn64 := (long_fits l).1
  have hn1 : (readF most l).1 < 18446744073709551616 := hn64
  unfold textR
  obtain ⟨R, hR⟩ : ∃ R, R = readF most l := ⟨_, rfl⟩
  rw [← hR] at h1 hf hn1 ⊢
  obtain ⟨n, k, y⟩ := R
  simp only at h1 hf hn1
  unfold textG
  simp only
  have G := Lib.hid h1
  clear h1 hR hn64
  by_cases hy : y = 0
  · subst hy
    rw [if_pos rfl]
    have hb3 : ¬ l.length - k < n → (k : Int) + (n : Int) ≤ 9223372036854775807 := by omega
    have hw1 : IntKind.u64.wrap (wrap64 ((l.length : Int) - (k : Int))) = ((l.length - k : Nat) : Int) := by rw [show wrap64 ((l.length : Int) - (k : Int)) = ((l.length - k : Nat) : Int) by unfold wrap64; omega]; exact wraps_u64 _ (by omega) (by omega)
    have hw1' : IntKind.u64.wrap ((l.length : Int) - (k : Int)) = ((l.length - k : Nat) : Int) := by rw [show ((l.length : Int) - (k : Int)) = ((l.length - k : Nat) : Int) by omega]; exact wraps_u64 _ (by omega) (by omega)
    by_cases hn : l.length - k < n
    · rw [if_pos hn]
      clear hb3
      have hg : decide (l.length - k < n) = true := by rw [decide_eq_true_eq]; omega
      obtain ⟨L, hL⟩ : ∃ L, L = l.length := ⟨_, rfl⟩
      rw [← hL] at hw1 hw1' hg G hm hf hn ⊢
      clear hc hr hL
      go_enter Try.func49, Try.ntmps49
      go_wp2_with fail
      refine G.out.mono ?_
      rintro e W2 ⟨rfl, rfl⟩
      go_wp2_with fail
      go_ret3
      exact ⟨rfl, rfl⟩
    · rw [if_neg hn]
      replace hb3 := hb3 hn
      obtain ⟨a2, S2, R2⟩ := sl_mid (P := Try.prog) (t := 25) Try.underlying25 size8 A l.length c k (k + n) (k : Int) ((k : Int) + (n : Int)) rfl (by omega) (by omega) (by omega)
      have hr2 := R2 W l rfl (by omega) hr
      have e1 : k + n - k = n := by omega
      rw [e1] at S2 hr2
      have hlen : ((l.drop k).take n).length = n := by rw [List.length_take, List.length_drop]; omega
      have hcv := conv_row (P := Try.prog) (src := 25) (dst := 9) Try.underlying25 Try.underlying5 Try.underlying9 hr2 (c - k)
      rw [hlen] at hcv
      have hg : decide (l.length - k < n) = false := by rw [decide_eq_false_iff_not]; omega
      have hw2 : IntKind.i64.wrap (n : Int) = (n : Int) := by rw [IntKind.wrap_i64]; omega
      have hw3 : wrap64 ((k : Int) + (n : Int)) = (k : Int) + (n : Int) := by unfold wrap64; omega
      obtain ⟨T, hT⟩ : ∃ T, T = (l.drop k).take n := ⟨_, rfl⟩
      rw [← hT] at hcv ⊢
      obtain ⟨L, hL⟩ : ∃ L, L = l.length := ⟨_, rfl⟩
      rw [← hL] at hw1 hw1' hg G hm hf S2 hn ⊢
      clear hc hr hr2 R2 hT hlen hL e1
      go_enter Try.func49, Try.ntmps49
      go_wp2_with fail
      refine G.out.mono ?_
      rintro e W2 ⟨rfl, rfl⟩
      go_wp2_with fail
      go_ret3
      refine ⟨?_, rfl⟩
      rw [Int.natCast_add]
      rfl
  · rw [if_neg hy]
    have hne : ((y : Int) == 0) = false := by rw [beq_eq_false_iff_ne]; omega
    go_enter Try.func49, Try.ntmps49
    go_wp2_with fail
    refine G.out.mono ?_
    rintro e W2 ⟨rfl, rfl⟩
    go_wp2_with fail
    go_ret3
    exact ⟨rfl, rfl⟩
set_option maxHeartbeats 1000000 in
set_option maxRecDepth 100000 in
theorem fieldB_calls (g : Nat) (A : Option Addr) (c : Nat) (l : List UInt8) (s : Rs) (W : World) (h : Rst g A c l s W) :
    Calls Try.prog 46 #[.pointer (some ⟨g, 0, none⟩), .func (.func 47) #[] #[]] W fun e W' => e = .returned (.bool (fieldF false (truthF) l s).1) ∧ Rst g A c l (fieldF false (truthF) l s).2 W' ∧ But g W W' := by
  obtain ⟨k0, k1, k2, k3⟩ := h.cells
  have hat := h.at_
  have hcap := h.cap
  have hbig := h.big
  obtain ⟨a, y, f⟩ := s
  simp only at k1 k2 k3 hat
  by_cases hz : y = 0 ∧ f = 0
  · obtain ⟨rfl, rfl⟩ := hz
    obtain ⟨A2, hsl, hrow⟩ := sl_from (P := Try.prog) (t := 25) Try.underlying25 size8 A l.length c a (a : Int) rfl hat
    have hr2 := hrow W l rfl hcap h.row
    have hln : l.length - a = (l.drop a).length := by rw [List.length_drop]
    have hrd := fun W' (hr : Row8 W' A2 (l.drop a)) => truth_calls A2 (c - a) (l.drop a) W' hr (by rw [List.length_drop]; omega)
    have hk : (truthF (l.drop a)).2.1 ≤ l.length - a := by rw [hln]; exact (truth_fits (l.drop a)).1
    have he : (truthF (l.drop a)).2.2 ≤ 17 := (truth_fits (l.drop a)).2
    have hF : fieldF false (truthF) l ⟨a, 0, 0⟩ = if (truthF (l.drop a)).2.2 = 0 then ((truthF (l.drop a)).1, ⟨a + (truthF (l.drop a)).2.1, 0, 0⟩) else (false, ⟨a, (truthF (l.drop a)).2.2, a⟩) := by
      unfold fieldF; rw [if_pos ⟨rfl, rfl⟩]
    obtain ⟨R, hR⟩ : ∃ R, R = truthF (l.drop a) := ⟨_, rfl⟩
    rw [← hR] at hk he hF
    simp only [← hR] at hrd
    rw [← hln] at hrd
    obtain ⟨n, k, e0⟩ := R
    simp only at hk he hF hrd
    rw [hF]
    have G := Lib.hid (And.intro h.drew (And.intro (show Row8 W.drew A2 (l.drop a) from hr2) hrd))
    clear hF hR hrow hr2 hrd h hcap hbig hln
    have bA : (0 : Int) ≤ (a : Int) := by omega
    have bB : (a : Int) ≤ (l.length : Int) := by omega
    go_enter Try.func46, Try.ntmps46
    go_wp2_with fail
    go_region_held3 (fun W' => W'.cell? ⟨g, 0, none⟩ = some (.slice A l.length c) ∧ W'.cell? ⟨g, 1, none⟩ = some (.int .i64 (a : Int))) (first | exact ⟨k0, k1⟩) (first | (go_at_call 47; ((with_reducible refine (G.out.2.2 _ G.out.2.1).mono ?_); rintro e w' ⟨rfl, rfl⟩)))
    have k0' : W.drew.cell? ⟨g, 0, none⟩ = some (.slice A l.length c) := k0
    have k1' : W.drew.cell? ⟨g, 1, none⟩ = some (.int .i64 (a : Int)) := k1
    have k2' : W.drew.cell? ⟨g, 2, none⟩ = some (.int .i64 0) := k2
    have k3' : W.drew.cell? ⟨g, 3, none⟩ = some (.int .i64 0) := k3
    have f1 := G.out.1.free 1
    have f2 := G.out.1.free 2
    have f3 := G.out.1.free 3
    have hbut : But g W W.drew := But.of_below (Below.refl _ _).drew
    clear k0 k1 k2 k3 hsl
    generalize W.drew = W1 at G k0' k1' k2' k3' f1 f2 f3 hbut ⊢
    by_cases h0 : e0 = 0
    · subst h0
      have hw : wrap64 ((a : Int) + (k : Int)) = ((a + k : Nat) : Int) := by have := G.out.1.cap; have := G.out.1.big; unfold wrap64; omega
      have hb1 : (a : Int) + (k : Int) ≤ 9223372036854775807 := by have := G.out.1.cap; have := G.out.1.big; omega
      obtain ⟨hr3, hb3⟩ := G.out.1.moved (a + k) (by omega)
      have H3 := Lib.hid (And.intro hr3 hb3)
      clear hr3 hb3
      go_wp2_with fail
      go_ret
      have h3 := H3.out
      rw [Int.natCast_add] at h3
      exact ⟨rfl, h3.1, hbut.trans h3.2⟩
    · have hne : ((e0 : Int) != 0) = true := by rw [bne_iff_ne]; omega
      obtain ⟨hr3, hb3⟩ := G.out.1.faulted e0 a (by omega) hat
      have H3 := Lib.hid (And.intro hr3 hb3)
      clear hr3 hb3
      go_wp2_with fail
      go_ret
      exact ⟨rfl, H3.out.1, hbut.trans H3.out.2⟩
  · have hF : fieldF false (truthF) l ⟨a, y, f⟩ = (false, ⟨a, y, f⟩) := by unfold fieldF; rw [if_neg hz]
    rw [hF]
    have G := Lib.hid h
    clear h hF
    by_cases hy : y = 0
    · have hf : ((f : Int) == 0) = false := by rw [beq_eq_false_iff_ne]; omega
      subst hy
      go_enter Try.func46, Try.ntmps46
      go_wp2_with fail
      go_ret
      exact ⟨rfl, G.out, But.of_below (Below.refl _ _)⟩
    · have hyy : ((y : Int) == 0) = false := by rw [beq_eq_false_iff_ne]; omega
      go_enter Try.func46, Try.ntmps46
      go_wp2_with fail
      go_ret
      exact ⟨rfl, G.out, But.of_below (Below.refl _ _)⟩
set_option maxHeartbeats 1000000 in
set_option maxRecDepth 100000 in
theorem fieldT_calls (g : Nat) (A : Option Addr) (c : Nat) (l : List UInt8) (s : Rs) (most : Nat) (hmost : most < 18446744073709551616) (W : World) (h : Rst g A c l s W) :
    Calls Try.prog 48 #[.pointer (some ⟨g, 0, none⟩), .func (.func 49) #[.int .u64 (most : Int)] #[]] W fun e W' => e = .returned (.string (txt (fieldF [] (textR most) l s).1)) ∧ Rst g A c l (fieldF [] (textR most) l s).2 W' ∧ But g W W' := by
  obtain ⟨k0, k1, k2, k3⟩ := h.cells
  have hat := h.at_
  have hcap := h.cap
  have hbig := h.big
  obtain ⟨a, y, f⟩ := s
  simp only at k1 k2 k3 hat
  by_cases hz : y = 0 ∧ f = 0
  · obtain ⟨rfl, rfl⟩ := hz
    obtain ⟨A2, hsl, hrow⟩ := sl_from (P := Try.prog) (t := 25) Try.underlying25 size8 A l.length c a (a : Int) rfl hat
    have hr2 := hrow W l rfl hcap h.row
    have hln : l.length - a = (l.drop a).length := by rw [List.length_drop]
    have hrd := fun W' (hr : Row8 W' A2 (l.drop a)) => ltext_calls most hmost A2 (c - a) (l.drop a) W' hr (by rw [List.length_drop]; omega) (by rw [List.length_drop]; omega)
    have hk : (textR most (l.drop a)).2.1 ≤ l.length - a := by rw [hln]; exact (textR_fits most (l.drop a)).1
    have he : (textR most (l.drop a)).2.2 ≤ 17 := (textR_fits most (l.drop a)).2
    have hF : fieldF [] (textR most) l ⟨a, 0, 0⟩ = if (textR most (l.drop a)).2.2 = 0 then ((textR most (l.drop a)).1, ⟨a + (textR most (l.drop a)).2.1, 0, 0⟩) else ([], ⟨a, (textR most (l.drop a)).2.2, a⟩) := by
      unfold fieldF; rw [if_pos ⟨rfl, rfl⟩]
    obtain ⟨R, hR⟩ : ∃ R, R = textR most (l.drop a) := ⟨_, rfl⟩
    rw [← hR] at hk he hF
    simp only [← hR] at hrd
    rw [← hln] at hrd
    obtain ⟨n, k, e0⟩ := R
    simp only at hk he hF hrd
    rw [hF]
    have G := Lib.hid (And.intro h.drew (And.intro (show Row8 W.drew A2 (l.drop a) from hr2) hrd))
    clear hF hR hrow hr2 hrd h hcap hbig hln
    have bA : (0 : Int) ≤ (a : Int) := by omega
    have bB : (a : Int) ≤ (l.length : Int) := by omega
    go_enter Try.func48, Try.ntmps48
    go_wp2_with fail
    go_region_held3 (fun W' => W'.cell? ⟨g, 0, none⟩ = some (.slice A l.length c) ∧ W'.cell? ⟨g, 1, none⟩ = some (.int .i64 (a : Int))) (first | exact ⟨k0, k1⟩) (first | (go_at_call 49; ((with_reducible refine (G.out.2.2 _ G.out.2.1).mono ?_); rintro e w' ⟨rfl, rfl⟩)))
    have k0' : W.drew.cell? ⟨g, 0, none⟩ = some (.slice A l.length c) := k0
    have k1' : W.drew.cell? ⟨g, 1, none⟩ = some (.int .i64 (a : Int)) := k1
    have k2' : W.drew.cell? ⟨g, 2, none⟩ = some (.int .i64 0) := k2
    have k3' : W.drew.cell? ⟨g, 3, none⟩ = some (.int .i64 0) := k3
    have f1 := G.out.1.free 1
    have f2 := G.out.1.free 2
    have f3 := G.out.1.free 3
    have hbut : But g W W.drew := But.of_below (Below.refl _ _).drew
    clear k0 k1 k2 k3 hsl
    generalize W.drew = W1 at G k0' k1' k2' k3' f1 f2 f3 hbut ⊢
    by_cases h0 : e0 = 0
    · subst h0
      have hw : wrap64 ((a : Int) + (k : Int)) = ((a + k : Nat) : Int) := by have := G.out.1.cap; have := G.out.1.big; unfold wrap64; omega
      have hb1 : (a : Int) + (k : Int) ≤ 9223372036854775807 := by have := G.out.1.cap; have := G.out.1.big; omega
      obtain ⟨hr3, hb3⟩ := G.out.1.moved (a + k) (by omega)
      have H3 := Lib.hid (And.intro hr3 hb3)
      clear hr3 hb3
      go_wp2_with fail
      go_ret
      have h3 := H3.out
      rw [Int.natCast_add] at h3
      exact ⟨rfl, h3.1, hbut.trans h3.2⟩
    · have hne : ((e0 : Int) != 0) = true := by rw [bne_iff_ne]; omega
      obtain ⟨hr3, hb3⟩ := G.out.1.faulted e0 a (by omega) hat
      have H3 := Lib.hid (And.intro hr3 hb3)
      clear hr3 hb3
      go_wp2_with fail
      go_ret
      exact ⟨rfl, H3.out.1, hbut.trans H3.out.2⟩
  · have hF : fieldF [] (textR most) l ⟨a, y, f⟩ = ([], ⟨a, y, f⟩) := by unfold fieldF; rw [if_neg hz]
    rw [hF]
    have G := Lib.hid h
    clear h hF
    by_cases hy : y = 0
    · have hf : ((f : Int) == 0) = false := by rw [beq_eq_false_iff_ne]; omega
      subst hy
      go_enter Try.func48, Try.ntmps48
      go_wp2_with fail
      go_ret
      exact ⟨rfl, G.out, But.of_below (Below.refl _ _)⟩
    · have hyy : ((y : Int) == 0) = false := by rw [beq_eq_false_iff_ne]; omega
      go_enter Try.func48, Try.ntmps48
      go_wp2_with fail
      go_ret
      exact ⟨rfl, G.out, But.of_below (Below.refl _ _)⟩
theorem rbool_calls (g : Nat) (A : Option Addr) (c : Nat) (l : List UInt8) (s : Rs) (W : World) (h : Rst g A c l s W) :
    Calls Try.prog 21 #[.pointer (some ⟨g, 0, none⟩)] W fun e W' => e = .returned (.bool (fieldF false truthF l s).1) ∧ Rst g A c l (fieldF false truthF l s).2 W' ∧ But g W W' := by
  have hc := fieldB_calls g A c l s W h
  obtain ⟨R, hR⟩ : ∃ R, R = fieldF false truthF l s := ⟨_, rfl⟩
  rw [← hR] at hc ⊢
  have G := Lib.hid hc
  clear hc hR h
  go_enter Try.func21, Try.ntmps21
  go_wp2_with fail
  refine G.out.mono ?_
  rintro e W2 ⟨rfl, hr, hb⟩
  have H := Lib.hid (And.intro hr hb)
  clear hr hb
  go_wp2_with fail
  go_ret
  exact ⟨rfl, H.out.1, H.out.2⟩
theorem rtext_calls (g : Nat) (A : Option Addr) (c : Nat) (l : List UInt8) (s : Rs) (most : Int) (h0 : -9223372036854775808 ≤ most) (h1 : most ≤ 9223372036854775807) (W : World) (h : Rst g A c l s W) :
    Calls Try.prog 22 #[.pointer (some ⟨g, 0, none⟩), .int .i64 most] W fun e W' => e = .returned (.string (txt (fieldF [] (textR most.toNat) l s).1)) ∧ Rst g A c l (fieldF [] (textR most.toNat) l s).2 W' ∧ But g W W' := by
  have hc := fieldT_calls g A c l s most.toNat (by omega) W h
  obtain ⟨R, hR⟩ : ∃ R, R = fieldF [] (textR most.toNat) l s := ⟨_, rfl⟩
  rw [← hR] at hc ⊢
  clear hR h
  by_cases hm : ¬ most < 0
  · have hm1 : IntKind.u64.wrap most = most := wraps_u64 _ (by omega) (by omega)
    have hm2 : (most.toNat : Int) = most := by omega
    rw [hm2] at hc
    have G := Lib.hid hc
    clear hc h0 h1 hm2
    go_enter Try.func22, Try.ntmps22
    go_wp2_with fail
    all_goals
      refine G.out.mono ?_
      rintro e W2 ⟨rfl, hr, hb⟩
      have H := Lib.hid (And.intro hr hb)
      clear hr hb
      go_wp2_with fail
      go_ret
      exact ⟨rfl, H.out.1, H.out.2⟩
  · have hm2 : most.toNat = 0 := by omega
    have hm1 : IntKind.u64.wrap 0 = 0 := by decide
    have hz0 : ((0 : Nat) : Int) = 0 := rfl
    rw [hm2, hz0] at hc
    replace hm := Decidable.not_not.1 hm
    have G := Lib.hid hc
    clear hc h0 h1 hm2
    go_enter Try.func22, Try.ntmps22
    go_wp2_with fail
    all_goals
      refine G.out.mono ?_
      rintro e W2 ⟨rfl, hr, hb⟩
      have H := Lib.hid (And.intro hr hb)
      clear hr hb
      go_wp2_with fail
      go_ret
      exact ⟨rfl, H.out.1, H.out.2⟩
end Go.Proofs.Ytinilglljjffjaa.Cd
