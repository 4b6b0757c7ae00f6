/- The walks of the reference's reader: a truth, a text, a key, New (weak contracts: it returns, its state stays in bounds). -/
import Derived.Test.YtinilglljjffjaaCQ
namespace Go.Proofs.Ytinilglljjffjaa.Cd
set_option linter.unusedVariables false
set_option linter.unusedSimpArgs false
open Go.RowKit
open Go.Proofs.Ytinilglljjffjaa.Num

set_option maxHeartbeats 1000000 in
set_option maxRecDepth 100000 in
theorem qbool_calls (g : Nat) (A : Option Addr) (c : Nat) (l : List UInt8) (s : Rs) (W : World) (h : Qst g A c l s W) :
    Calls Try.prog 39 #[.pointer (some ⟨g, 0, none⟩)] W fun e W' => ∃ (b : Bool) (s' : Rs), e = .returned (.bool b) ∧ Qst g A c l s' W' ∧ But g W W' := by
  obtain ⟨_, k1, _, _⟩ := h.cells
  have hat := h.at_
  have G := Lib.hid (And.intro (qbyte_calls g A c l s W h) hat)
  clear h hat
  go_enter Try.func39, Try.ntmps39
  go_wp2_with fail
  refine G.out.1.mono ?_
  rintro e W1 ⟨n, s1, rfl, hq1, hb1⟩
  obtain ⟨x, hx⟩ : ∃ x, x = n.toNat := ⟨_, rfl⟩
  rw [← hx]
  have H1 := Lib.hid (And.intro hq1 hb1)
  clear hq1 hb1 hx k1
  by_cases h1 : 1 < x
  · have h1i : (1 : Int) < (x : Int) := by omega
    clear h1
    go_wp2_with fail
    refine (wrong_calls g A c l s1 W1 3 s.at_ (by decide) G.out.2 H1.out.1).mono ?_
    rintro e W2 ⟨rfl, s2, _, _, hq2, hb2⟩
    obtain ⟨q0, q1, q2, q3⟩ := hq2.cells
    have f1 := hq2.free 1
    obtain ⟨hq3, hb3⟩ := hq2.moved s.at_ G.out.2
    have H3 := Lib.hid (And.intro hq3 ((H1.out.2.trans hb2).trans hb3))
    clear hq2 hb2 hq3 hb3
    go_wp2_with fail
    go_ret
    exact ⟨false, _, rfl, H3.out.1, H3.out.2⟩
  · have h1i : ¬ (1 : Int) < (x : Int) := by omega
    clear h1
    go_wp2_with fail
    go_ret
    exact ⟨_, _, rfl, H1.out.1, H1.out.2⟩
theorem len_mid (l : List UInt8) (a n : Nat) (h : a + n ≤ l.length) : ((l.drop a).take n).length = n := by rw [List.length_take, List.length_drop]; omega
theorem wrapi_nat (z : Nat) (h : z ≤ 9223372036854775807) : IntKind.i64.wrap (z : Int) = (z : Int) := by rw [IntKind.wrap_i64]; omega
theorem wrapi_sub (a n : Nat) (h : a ≤ 9223372036854775807) : IntKind.i64.wrap ((a : Int) + (n : Int) - (n : Int)) = (a : Int) := by rw [Int.add_sub_cancel]; exact wrapi_nat a h
theorem wrap64_nat (z : Nat) (h : z ≤ 9223372036854775807) : wrap64 (z : Int) = (z : Int) := by unfold wrap64; omega
theorem wrapu_nat (z : Nat) (h : z ≤ 9223372036854775807) : IntKind.u64.wrap (z : Int) = (z : Int) := wraps_u64 _ (by omega) (by omega)
theorem wrap64_sum (a n : Nat) (h : a + n ≤ 9223372036854775807) : wrap64 ((a : Int) + (n : Int)) = ((a : Int) + (n : Int)) := by unfold wrap64; omega
set_option maxHeartbeats 2000000 in
set_option maxRecDepth 100000 in
theorem qtext_calls (g : Nat) (A : Option Addr) (c : Nat) (l : List UInt8) (s : Rs) (most : Int) (h0 : -9223372036854775808 ≤ most) (h1 : most ≤ 9223372036854775807) (W : World) (h : Qst g A c l s W) :
    Calls Try.prog 40 #[.pointer (some ⟨g, 0, none⟩), .int .i64 most] W fun e W' => ∃ (m : List UInt8) (s' : Rs), e = .returned (.string (txt m)) ∧ Qst g A c l s' W' ∧ But g W W' := by
  obtain ⟨_, k1, _, _⟩ := h.cells
  have hat := h.at_
  obtain ⟨mu, hmu, hmx⟩ : ∃ mu : Nat, mu < 18446744073709551616 ∧ ∀ z : Int, z = (if most < 0 then 0 else most) → IntKind.u64.wrap z = (mu : Int) := by
    refine ⟨most.toNat, by omega, fun z hz => ?_⟩
    rw [hz]
    split
    · rw [wraps_u64 0 (by decide) (by decide)]; omega
    · rw [wraps_u64 _ (by omega) (by omega)]; omega
  have G := Lib.hid (And.intro (qnum_calls g A c l s mu hmu W h) (And.intro hat hmx))
  clear h hat hmu hmx
  by_cases hm : ¬ most < 0
  · have hz1 : IntKind.u64.wrap most = (mu : Int) := G.out.2.2 most (by rw [if_neg hm])
    clear h0 h1
    go_enter Try.func40, Try.ntmps40
    go_wp2_with fail
    refine G.out.1.mono ?_
    rintro e W1 ⟨n, s1, rfl, hn, hq1, hb1⟩
    obtain ⟨q0, q1, q2, q3⟩ := hq1.cells
    have hat1 := hq1.at_
    have hcap := hq1.cap
    have hbig := hq1.big
    obtain ⟨a, y, f⟩ := s1
    simp only at q1 q2 q3 hat1
    by_cases hy : y = 0
    · have hyi : ((y : Int) != 0) = false := by rw [bne_eq_false_iff_eq]; omega
      obtain ⟨z, hz⟩ : ∃ z, z = l.length - a := ⟨_, rfl⟩
      have hs1 : (l.length : Int) - (a : Int) = (z : Int) := by omega
      have hzb : z ≤ 9223372036854775807 := by omega
      have hs2 : wrap64 (z : Int) = (z : Int) := wrap64_nat z hzb
      have hs3 : IntKind.u64.wrap (z : Int) = (z : Int) := wrapu_nat z hzb
      have H1 := Lib.hid (And.intro hq1 (And.intro hb1 (And.intro hn (And.intro hat1 (And.intro hcap hbig)))))
      have HZ := Lib.hid hz
      have f1 := hq1.free 1
      clear hq1 hb1 hn hz hcap hbig hy k1
      by_cases hzn : z < n
      · have hzi : decide (z < n) = true := decide_eq_true hzn
        clear hzb
        go_wp2_with fail
        go_quiet (fail)
        go_wp2_with fail
        have hbq := show Below W1.heap.size W1 (W1.drewN nq) from below_drewN (Below.refl _ _) nq
        refine (wrong_calls g A c l ⟨a, y, f⟩ (W1.drewN nq) 4 s.at_ (by decide) G.out.2.1 (H1.out.1.below hbq)).mono ?_
        rintro e W2 ⟨rfl, s2, _, _, hq2, hb2⟩
        obtain ⟨p0, p1, p2, p3⟩ := hq2.cells
        have f1' := hq2.free 1
        obtain ⟨hq3, hb3⟩ := hq2.moved s.at_ G.out.2.1
        have H3 := Lib.hid (And.intro hq3 (((H1.out.2.1.trans (But.of_below hbq)).trans hb2).trans hb3))
        clear hq2 hb2 hq3 hb3 hbq q0 q1 q2 q3 f1
        go_wp2_with fail
        go_ret
        exact ⟨[], _, rfl, H3.out.1, H3.out.2⟩
      · have hzi : decide (z < n) = false := decide_eq_false hzn
        have hn4 : a + n ≤ l.length := by have := HZ.out; have := H1.out.2.2.2.1; omega
        have hn5 : a + n ≤ 9223372036854775807 := Nat.le_trans hn4 (Nat.le_trans H1.out.2.2.2.2.1 H1.out.2.2.2.2.2)
        have hn1 : wrap64 (n : Int) = (n : Int) := wrap64_nat n (Nat.le_trans (Nat.le_add_left _ _) hn5)
        have hn2 : wrap64 ((a : Int) + (n : Int)) = ((a : Int) + (n : Int)) := wrap64_sum a n hn5
        have HN := Lib.hid hn4
        have HL := Lib.hid hn5
        clear hn4 hn5 hzb
        go_wp2_with fail
        go_quiet (fail)
        have hbq := show Below W1.heap.size W1 (W1.drewN nq) from below_drewN (Below.refl _ _) nq
        have q0' : (W1.drewN nq).cell? ⟨g, 0, none⟩ = some (.slice A l.length c) := q0
        have q1' : (W1.drewN nq).cell? ⟨g, 1, none⟩ = some (.int .i64 (a : Int)) := q1
        have f1' : (W1.drewN nq).frozen? ⟨g, 1, none⟩ = false := f1
        have hqn := H1.out.1.below hbq
        have hbn := H1.out.2.1.trans (But.of_below hbq)
        clear q0 q1 q2 q3 f1 hbq
        generalize W1.drewN nq = W2 at q0' q1' f1' hqn hbn ⊢
        obtain ⟨hq3, hb3⟩ := hqn.moved (a + n) HN.out
        rw [Int.natCast_add] at hq3 hb3
        obtain ⟨m0, m1, _, _⟩ := hq3.cells
        rw [Int.natCast_add] at m1
        obtain ⟨a2, S2, R2⟩ := sl_mid (P := Try.prog) (t := 25) Try.underlying25 size8 A l.length c a (a + n) (a : Int) ((a : Int) + (n : Int)) rfl (Int.natCast_add a n).symm (Nat.le_add_right a n) (Nat.le_trans HN.out H1.out.2.2.2.2.1)
        rw [Nat.add_sub_cancel_left] at S2 R2
        have H3 := Lib.hid (And.intro hq3 (And.intro (hbn.trans hb3) (fun w l hl hr => R2 w l hl HN.out hr)))
        clear hqn hbn hq3 hb3 R2
        go_wp2_with fail
        generalize W2.setCell ⟨g, 1, none⟩ (.int .i64 ((a : Int) + (n : Int))) = W3 at m0 m1 H3 ⊢
        have hr2 := H3.out.2.2 W3 l rfl H3.out.1.row
        have hlen : ((l.drop a).take n).length = n := len_mid l a n HN.out
        have hcv := conv_row (P := Try.prog) (src := 25) (dst := 9) Try.underlying25 Try.underlying5 Try.underlying9 (show Row8 W3.drew a2 _ from hr2) (c - a)
        rw [hlen] at hcv
        have hsa : (a : Int) + (n : Int) - (n : Int) = (a : Int) := Int.add_sub_cancel _ _
        obtain ⟨T, hT⟩ : ∃ T, T = (l.drop a).take n := ⟨_, rfl⟩
        rw [← hT] at hcv
        have hi1 := wrapi_nat n (Nat.le_trans (Nat.le_add_left _ _) HL.out)
        have hi2 := wrapi_nat a (Nat.le_trans (Nat.le_add_right _ _) HL.out)
        have hal : (a : Int) ≤ (a : Int) + (n : Int) := Int.le_add_of_nonneg_right (Int.natCast_nonneg n)
        have ha0 : (0 : Int) ≤ (a : Int) := Int.natCast_nonneg a
        clear hr2 hlen hT q0' q1' f1'
        go_region_held3 (fun W' => W'.cell? ⟨g, 0, none⟩ = some (.slice A l.length c) ∧ W'.cell? ⟨g, 1, none⟩ = some (.int .i64 ((a : Int) + (n : Int))) ∧ (convert 25 9 (.slice a2 n (c - a))).run Try.prog W' = .ok (.string (txt T)) W') (first | exact ⟨m0, m1, hcv⟩) (fail)
        go_wp2_with fail
        go_ret
        exact ⟨T, _, rfl, H3.out.1.drew, H3.out.2.1.trans (But.of_below (Below.refl _ _).drew)⟩
    · have hyi : ((y : Int) != 0) = true := by rw [bne_iff_ne]; omega
      have H1 := Lib.hid (And.intro hq1 hb1)
      clear hq1 hb1 hn hy k1 hcap hbig
      go_wp2_with fail
      go_ret
      exact ⟨[], _, rfl, H1.out.1, H1.out.2⟩
  · have hz1 : IntKind.u64.wrap 0 = (mu : Int) := G.out.2.2 0 (by rw [if_pos (Decidable.not_not.1 hm)])
    replace hm := Decidable.not_not.1 hm
    clear h0 h1
    go_enter Try.func40, Try.ntmps40
    go_wp2_with fail
    refine G.out.1.mono ?_
    rintro e W1 ⟨n, s1, rfl, hn, hq1, hb1⟩
    obtain ⟨q0, q1, q2, q3⟩ := hq1.cells
    have hat1 := hq1.at_
    have hcap := hq1.cap
    have hbig := hq1.big
    obtain ⟨a, y, f⟩ := s1
    simp only at q1 q2 q3 hat1
    by_cases hy : y = 0
    · have hyi : ((y : Int) != 0) = false := by rw [bne_eq_false_iff_eq]; omega
      obtain ⟨z, hz⟩ : ∃ z, z = l.length - a := ⟨_, rfl⟩
      have hs1 : (l.length : Int) - (a : Int) = (z : Int) := by omega
      have hzb : z ≤ 9223372036854775807 := by omega
      have hs2 : wrap64 (z : Int) = (z : Int) := wrap64_nat z hzb
      have hs3 : IntKind.u64.wrap (z : Int) = (z : Int) := wrapu_nat z hzb
      have H1 := Lib.hid (And.intro hq1 (And.intro hb1 (And.intro hn (And.intro hat1 (And.intro hcap hbig)))))
      have HZ := Lib.hid hz
      have f1 := hq1.free 1
      clear hq1 hb1 hn hz hcap hbig hy k1
      by_cases hzn : z < n
      · have hzi : decide (z < n) = true := decide_eq_true hzn
        clear hzb
        go_wp2_with fail
        go_quiet (fail)
        go_wp2_with fail
        have hbq := show Below W1.heap.size W1 (W1.drewN nq) from below_drewN (Below.refl _ _) nq
        refine (wrong_calls g A c l ⟨a, y, f⟩ (W1.drewN nq) 4 s.at_ (by decide) G.out.2.1 (H1.out.1.below hbq)).mono ?_
        rintro e W2 ⟨rfl, s2, _, _, hq2, hb2⟩
        obtain ⟨p0, p1, p2, p3⟩ := hq2.cells
        have f1' := hq2.free 1
        obtain ⟨hq3, hb3⟩ := hq2.moved s.at_ G.out.2.1
        have H3 := Lib.hid (And.intro hq3 (((H1.out.2.1.trans (But.of_below hbq)).trans hb2).trans hb3))
        clear hq2 hb2 hq3 hb3 hbq q0 q1 q2 q3 f1
        go_wp2_with fail
        go_ret
        exact ⟨[], _, rfl, H3.out.1, H3.out.2⟩
      · have hzi : decide (z < n) = false := decide_eq_false hzn
        have hn4 : a + n ≤ l.length := by have := HZ.out; have := H1.out.2.2.2.1; omega
        have hn5 : a + n ≤ 9223372036854775807 := Nat.le_trans hn4 (Nat.le_trans H1.out.2.2.2.2.1 H1.out.2.2.2.2.2)
        have hn1 : wrap64 (n : Int) = (n : Int) := wrap64_nat n (Nat.le_trans (Nat.le_add_left _ _) hn5)
        have hn2 : wrap64 ((a : Int) + (n : Int)) = ((a : Int) + (n : Int)) := wrap64_sum a n hn5
        have HN := Lib.hid hn4
        have HL := Lib.hid hn5
        clear hn4 hn5 hzb
        go_wp2_with fail
        go_quiet (fail)
        have hbq := show Below W1.heap.size W1 (W1.drewN nq) from below_drewN (Below.refl _ _) nq
        have q0' : (W1.drewN nq).cell? ⟨g, 0, none⟩ = some (.slice A l.length c) := q0
        have q1' : (W1.drewN nq).cell? ⟨g, 1, none⟩ = some (.int .i64 (a : Int)) := q1
        have f1' : (W1.drewN nq).frozen? ⟨g, 1, none⟩ = false := f1
        have hqn := H1.out.1.below hbq
        have hbn := H1.out.2.1.trans (But.of_below hbq)
        clear q0 q1 q2 q3 f1 hbq
        generalize W1.drewN nq = W2 at q0' q1' f1' hqn hbn ⊢
        obtain ⟨hq3, hb3⟩ := hqn.moved (a + n) HN.out
        rw [Int.natCast_add] at hq3 hb3
        obtain ⟨m0, m1, _, _⟩ := hq3.cells
        rw [Int.natCast_add] at m1
        obtain ⟨a2, S2, R2⟩ := sl_mid (P := Try.prog) (t := 25) Try.underlying25 size8 A l.length c a (a + n) (a : Int) ((a : Int) + (n : Int)) rfl (Int.natCast_add a n).symm (Nat.le_add_right a n) (Nat.le_trans HN.out H1.out.2.2.2.2.1)
        rw [Nat.add_sub_cancel_left] at S2 R2
        have H3 := Lib.hid (And.intro hq3 (And.intro (hbn.trans hb3) (fun w l hl hr => R2 w l hl HN.out hr)))
        clear hqn hbn hq3 hb3 R2
        go_wp2_with fail
        generalize W2.setCell ⟨g, 1, none⟩ (.int .i64 ((a : Int) + (n : Int))) = W3 at m0 m1 H3 ⊢
        have hr2 := H3.out.2.2 W3 l rfl H3.out.1.row
        have hlen : ((l.drop a).take n).length = n := len_mid l a n HN.out
        have hcv := conv_row (P := Try.prog) (src := 25) (dst := 9) Try.underlying25 Try.underlying5 Try.underlying9 (show Row8 W3.drew a2 _ from hr2) (c - a)
        rw [hlen] at hcv
        have hsa : (a : Int) + (n : Int) - (n : Int) = (a : Int) := Int.add_sub_cancel _ _
        obtain ⟨T, hT⟩ : ∃ T, T = (l.drop a).take n := ⟨_, rfl⟩
        rw [← hT] at hcv
        have hi1 := wrapi_nat n (Nat.le_trans (Nat.le_add_left _ _) HL.out)
        have hi2 := wrapi_nat a (Nat.le_trans (Nat.le_add_right _ _) HL.out)
        have hal : (a : Int) ≤ (a : Int) + (n : Int) := Int.le_add_of_nonneg_right (Int.natCast_nonneg n)
        have ha0 : (0 : Int) ≤ (a : Int) := Int.natCast_nonneg a
        clear hr2 hlen hT q0' q1' f1'
        go_region_held3 (fun W' => W'.cell? ⟨g, 0, none⟩ = some (.slice A l.length c) ∧ W'.cell? ⟨g, 1, none⟩ = some (.int .i64 ((a : Int) + (n : Int))) ∧ (convert 25 9 (.slice a2 n (c - a))).run Try.prog W' = .ok (.string (txt T)) W') (first | exact ⟨m0, m1, hcv⟩) (fail)
        go_wp2_with fail
        go_ret
        exact ⟨T, _, rfl, H3.out.1.drew, H3.out.2.1.trans (But.of_below (Below.refl _ _).drew)⟩
    · have hyi : ((y : Int) != 0) = true := by rw [bne_iff_ne]; omega
      have H1 := Lib.hid (And.intro hq1 hb1)
      clear hq1 hb1 hn hy k1 hcap hbig
      go_wp2_with fail
      go_ret
      exact ⟨[], _, rfl, H1.out.1, H1.out.2⟩
theorem qst_setc {g b : Nat} {A : Option Addr} {c : Nat} {l : List UInt8} {s : Rs} {w : World} (h : Qst g A c l s w) (hgb : g < b) (i : Nat) (v : Value) : Qst g A c l s (w.setCell ⟨b, i, none⟩ v) :=
  h.turn (But.set w i v) (by omega) (by simp [Value.ownBlock]) (fun x hx => ⟨by have := h.far x hx; omega, by simp [Value.ownBlock]⟩)
theorem qst_set8 {g b : Nat} {A : Option Addr} {c : Nat} {l : List UInt8} {s : Rs} {w1 : World} (h : Qst g A c l s w1) (hgb : g < b) (v0 v1 v2 v3 v4 v5 v6 v7 : Value) : Qst g A c l s ((((((((w1.setCell ⟨b, 0, none⟩ v0).setCell ⟨b, 1, none⟩ v1).setCell ⟨b, 2, none⟩ v2).setCell ⟨b, 3, none⟩ v3).setCell ⟨b, 4, none⟩ v4).setCell ⟨b, 5, none⟩ v5).setCell ⟨b, 6, none⟩ v6).setCell ⟨b, 7, none⟩ v7) := qst_setc (qst_setc (qst_setc (qst_setc (qst_setc (qst_setc (qst_setc (qst_setc h hgb _ _) hgb _ _) hgb _ _) hgb _ _) hgb _ _) hgb _ _) hgb _ _) hgb _ _
theorem key_set1 {b : Nat} {k : List UInt8} {W : World} (h : KeyAt b k W) (j : Nat) (x : UInt8) : KeyAt b (k.set j x) (W.setCell ⟨b, j, none⟩ (.int .u8 (x.toNat : Int))) := by
  unfold KeyAt at h ⊢
  rw [block_set h]
  simp [v8, List.map_set]
theorem key_at {b : Nat} {k : List UInt8} {W : World} (h : KeyAt b k W) (j : Nat) (hj : j < k.length) : W.cell? ⟨b, j, none⟩ = some (v8 k[j]) := by
  unfold KeyAt at h
  simp [World.cell?, h, hj]
theorem KeyAt.but {b g : Nat} {k : List UInt8} {W W' : World} (h : KeyAt b k W) (hb : But g W W') (hg : b ≠ g) : KeyAt b k W' := hb.heap h hg
set_option maxHeartbeats 2000000 in
set_option maxRecDepth 100000 in
theorem qkey_calls (g : Nat) (A : Option Addr) (c : Nat) (l : List UInt8) (s : Rs) (W : World) (h : Qst g A c l s W) :
    Calls Try.prog 41 #[.pointer (some ⟨g, 0, none⟩)] W fun e W' => ∃ (k : List UInt8) (s' : Rs), k.length = 8 ∧ e = .returned (keyV k) ∧ Qst g A c l s' W' ∧ But g W W' := by
  have hglt := (Array.getElem?_eq_some_iff.1 h.box).1
  obtain ⟨hR, hK, hbel⟩ := zeros2 W
  have h2 := h.below hbel
  have hz2 : ((W.alloc (.cells #[.int .u8 0, .int .u8 0, .int .u8 0, .int .u8 0, .int .u8 0, .int .u8 0, .int .u8 0, .int .u8 0] 55)).alloc (.cells #[.int .u8 0, .int .u8 0, .int .u8 0, .int .u8 0, .int .u8 0, .int .u8 0, .int .u8 0, .int .u8 0] 55)).heap.size = W.heap.size + 2 := by simp
  obtain ⟨k0, k1, k2, k3⟩ := h2.cells
  have hat := h.at_
  have hcap := h.cap
  have hbig := h.big
  obtain ⟨a, y, f⟩ := s
  simp only at k1 k2 k3 hat
  have G := Lib.hid (And.intro hR (And.intro hK (And.intro hbel h2)))
  clear hR hK hbel h2 h
  by_cases hy : y = 0 ∧ l.length - a < 8
  · have hyi : ((y : Int) == 0) = true := by rw [beq_iff_eq]; omega
    obtain ⟨z, hz⟩ : ∃ z, z = l.length - a := ⟨_, rfl⟩
    have hs1 : (l.length : Int) - (a : Int) = (z : Int) := by omega
    have hz8 : z < 8 := by omega
    have hs2 : wrap64 (z : Int) = (z : Int) := wrap64_nat z (by omega)
    have hs3 : IntKind.i64.wrap (z : Int) = (z : Int) := wrapi_nat z (by omega)
    have hz8i : decide ((z : Int) < 8) = true := decide_eq_true (by omega)
    clear hy hz hz8 hcap hbig
    go_enter Try.func41, Try.ntmps41
    go_wp2_with fail
    generalize (W.alloc (.cells #[.int .u8 0, .int .u8 0, .int .u8 0, .int .u8 0, .int .u8 0, .int .u8 0, .int .u8 0, .int .u8 0] 55)).alloc (.cells #[.int .u8 0, .int .u8 0, .int .u8 0, .int .u8 0, .int .u8 0, .int .u8 0, .int .u8 0, .int .u8 0] 55) = W2 at G hz2 k0 k1 k2 k3 ⊢
    go_quiet (fail)
    go_wp2_with fail
    refine (wrong_calls g A c l ⟨a, y, f⟩ (W2.drewN nq) 4 a (by decide) hat (G.out.2.2.2.below (below_drewN (Below.refl _ _) nq))).mono ?_
    rintro e Wl ⟨rfl, s1, _, _, hql, hbl⟩
    have hbd : But g W (W2.drewN nq) := But.of_below (below_drewN G.out.2.2.1 nq)
    have QL := Lib.hid (And.intro (KeyAt.but (show KeyAt W.heap.size zero8 (W2.drewN nq) from G.out.1) hbl (by omega)) (And.intro (KeyAt.but (show KeyAt (W.heap.size + 1) zero8 (W2.drewN nq) from G.out.2.1) hbl (by omega)) (And.intro hql (hbd.trans hbl))))
    clear hql hbl hbd k0 k1 k2 k3
    go_wp2_with fail
    go_loopw [4] (fun i wr => ∃ (j : Nat) (k : List UInt8) (s' : Rs), j ≤ 8 ∧ i = .int .i64 (j : Int) ∧ k.length = 8 ∧ KeyAt W.heap.size zero8 wr ∧ KeyAt (W.heap.size + 1) k wr ∧ Qst g A c l s' wr ∧ But g W wr) (fun i _ => 8 - (intOf i).toNat)
    case atStart => exact ⟨0, zero8, s1, by omega, rfl, rfl, QL.out.1, QL.out.2.1, QL.out.2.2.1, QL.out.2.2.2⟩
    case round =>
      obtain ⟨j, k, s', hj, rfl, hk8, hr, hk, hq, hb⟩ := hrel
      obtain ⟨q0, q1, q2, q3⟩ := hq.cells
      obtain ⟨a', y', f'⟩ := s'
      simp only at q1 q2 q3
      have H := Lib.hid (And.intro hr (And.intro hk (And.intro hq (And.intro hb hk8))))
      clear hr hk hq hb
      by_cases hj8 : j < 8
      · have hj8i : (j : Int) < 8 := by omega
        by_cases hy' : y' = 0
        · have hyi' : ((y' : Int) == 0) = true := by rw [beq_iff_eq]; omega
          have hj0 : (0 : Int) ≤ (j : Int) := by omega
          clear hj8 hy'
          go_wp2_with fail
          refine (qbyte_calls g A c l ⟨a', y', f'⟩ wr H.out.2.2.1).mono ?_
          rintro e w5 ⟨x, s5, rfl, hq5, hb5⟩
          have hk5 := H.out.2.1.but hb5 (by omega)
          have hr5 := H.out.1.but hb5 (by omega)
          have hcl := key_at hk5 j (by omega)
          have hfr := hk5.free j
          have hst := key_set1 hk5 j x
          obtain ⟨u, hu⟩ : ∃ u, u = v8 (k[j]'(by omega)) := ⟨_, rfl⟩
          rw [← hu] at hcl
          have H5 := Lib.hid (And.intro (key_setc hr5 (show W.heap.size ≠ W.heap.size + 1 by omega) j (.int .u8 (x.toNat : Int))) (And.intro hst (And.intro (qst_setc hq5 (show g < W.heap.size + 1 by omega) j (.int .u8 (x.toNat : Int))) (but_setc (H.out.2.2.2.1.trans hb5) (show W.heap.size ≤ W.heap.size + 1 by omega) j (.int .u8 (x.toNat : Int))))))
          clear hk5 hr5 hst hq5 hb5 hu q0 q1 q2 q3
          go_wp2_with fail
          refine ⟨⟨j + 1, k.set j x, s5, by omega, by go_num, by rw [List.length_set]; exact H.out.2.2.2.2, H5.out.1, H5.out.2.1, H5.out.2.2.1, H5.out.2.2.2⟩, by (first | (simp [intOf]; done) | (simp [intOf]; omega))⟩
        · have hyi' : ((y' : Int) == 0) = false := by rw [beq_eq_false_iff_ne]; omega
          clear hy' hj8
          obtain ⟨x0, x1, x2, x3, x4, x5, x6, x7, rfl⟩ := eight H.out.2.2.2.2
          obtain ⟨n0, n1, n2, n3, n4, n5, n6, n7⟩ := H.out.2.1.cells
          obtain ⟨r0, r1, r2, r3, r4, r5, r6, r7⟩ := H.out.1.zero
          have f0 := H.out.1.free 0; have f1 := H.out.1.free 1; have f2 := H.out.1.free 2; have f3 := H.out.1.free 3; have f4 := H.out.1.free 4; have f5 := H.out.1.free 5; have f6 := H.out.1.free 6; have f7 := H.out.1.free 7
          clear hk8
          go_wp2_with fail
          refine bodyPost_ret (v := keyV [x0, x1, x2, x3, x4, x5, x6, x7]) (by simp [results, Try.results41, go_sem, keyV, v8, r0, r1, r2, r3, r4, r5, r6, r7]) rfl ?_
          first | exact ⟨[x0, x1, x2, x3, x4, x5, x6, x7], ⟨a', y', f'⟩, rfl, rfl, qst_set8 H.out.2.2.1 hglt _ _ _ _ _ _ _ _, but_set8 H.out.2.2.2.1 (Nat.le_refl _) _ _ _ _ _ _ _ _⟩ | exact ⟨[x0, x1, x2, x3, x4, x5, x6, x7], rfl, rfl, ⟨⟨a', y', f'⟩, qst_set8 H.out.2.2.1 hglt _ _ _ _ _ _ _ _⟩, but_set8 H.out.2.2.2.1 (Nat.le_refl _) _ _ _ _ _ _ _ _⟩
      · have hj8i : ¬ (j : Int) < 8 := by omega
        obtain ⟨x0, x1, x2, x3, x4, x5, x6, x7, rfl⟩ := eight H.out.2.2.2.2
        obtain ⟨n0, n1, n2, n3, n4, n5, n6, n7⟩ := H.out.2.1.cells
        obtain ⟨r0, r1, r2, r3, r4, r5, r6, r7⟩ := H.out.1.zero
        have f0 := H.out.1.free 0; have f1 := H.out.1.free 1; have f2 := H.out.1.free 2; have f3 := H.out.1.free 3; have f4 := H.out.1.free 4; have f5 := H.out.1.free 5; have f6 := H.out.1.free 6; have f7 := H.out.1.free 7
        clear hk8
        go_wp2_with fail
        refine bodyPost_ret (v := keyV [x0, x1, x2, x3, x4, x5, x6, x7]) (by simp [results, Try.results41, go_sem, keyV, v8, r0, r1, r2, r3, r4, r5, r6, r7]) rfl ?_
        first | exact ⟨[x0, x1, x2, x3, x4, x5, x6, x7], ⟨a', y', f'⟩, rfl, rfl, qst_set8 H.out.2.2.1 hglt _ _ _ _ _ _ _ _, but_set8 H.out.2.2.2.1 (Nat.le_refl _) _ _ _ _ _ _ _ _⟩ | exact ⟨[x0, x1, x2, x3, x4, x5, x6, x7], rfl, rfl, ⟨⟨a', y', f'⟩, qst_set8 H.out.2.2.1 hglt _ _ _ _ _ _ _ _⟩, but_set8 H.out.2.2.2.1 (Nat.le_refl _) _ _ _ _ _ _ _ _⟩
  · by_cases hy0 : y = 0
    · have hyi : ((y : Int) == 0) = true := by rw [beq_iff_eq]; omega
      obtain ⟨z, hz⟩ : ∃ z, z = l.length - a := ⟨_, rfl⟩
      have hs1 : (l.length : Int) - (a : Int) = (z : Int) := by omega
      have hz8 : ¬ z < 8 := by rw [hz]; exact fun h => hy ⟨hy0, h⟩
      have hs2 : wrap64 (z : Int) = (z : Int) := wrap64_nat z (by omega)
      have hs3 : IntKind.i64.wrap (z : Int) = (z : Int) := wrapi_nat z (by omega)
      have hz8i : decide ((z : Int) < 8) = false := decide_eq_false (by omega)
      clear hy hy0 hz hz8 hcap hbig
      go_enter Try.func41, Try.ntmps41
      go_wp2_with fail
      generalize (W.alloc (.cells #[.int .u8 0, .int .u8 0, .int .u8 0, .int .u8 0, .int .u8 0, .int .u8 0, .int .u8 0, .int .u8 0] 55)).alloc (.cells #[.int .u8 0, .int .u8 0, .int .u8 0, .int .u8 0, .int .u8 0, .int .u8 0, .int .u8 0, .int .u8 0] 55) = W2 at G hz2 k0 k1 k2 k3 ⊢
      go_quiet (fail)
      obtain ⟨s1, hs1e⟩ : ∃ s1 : Rs, s1 = ⟨a, y, f⟩ := ⟨_, rfl⟩
      have QL := Lib.hid (show KeyAt W.heap.size zero8 (W2.drewN nq) ∧ KeyAt (W.heap.size + 1) zero8 (W2.drewN nq) ∧ Qst g A c l s1 (W2.drewN nq) ∧ But g W (W2.drewN nq) from ⟨G.out.1, G.out.2.1, by rw [hs1e]; exact G.out.2.2.2.below (below_drewN (Below.refl _ _) nq), But.of_below (below_drewN G.out.2.2.1 nq)⟩)
      clear hs1e k0 k1 k2 k3
      generalize W2.drewN nq = Wl at QL ⊢
      go_wp2_with fail
      go_loopw [4] (fun i wr => ∃ (j : Nat) (k : List UInt8) (s' : Rs), j ≤ 8 ∧ i = .int .i64 (j : Int) ∧ k.length = 8 ∧ KeyAt W.heap.size zero8 wr ∧ KeyAt (W.heap.size + 1) k wr ∧ Qst g A c l s' wr ∧ But g W wr) (fun i _ => 8 - (intOf i).toNat)
      case atStart => exact ⟨0, zero8, s1, by omega, rfl, rfl, QL.out.1, QL.out.2.1, QL.out.2.2.1, QL.out.2.2.2⟩
      case round =>
        obtain ⟨j, k, s', hj, rfl, hk8, hr, hk, hq, hb⟩ := hrel
        obtain ⟨q0, q1, q2, q3⟩ := hq.cells
        obtain ⟨a', y', f'⟩ := s'
        simp only at q1 q2 q3
        have H := Lib.hid (And.intro hr (And.intro hk (And.intro hq (And.intro hb hk8))))
        clear hr hk hq hb
        by_cases hj8 : j < 8
        · have hj8i : (j : Int) < 8 := by omega
          by_cases hy' : y' = 0
          · have hyi' : ((y' : Int) == 0) = true := by rw [beq_iff_eq]; omega
            have hj0 : (0 : Int) ≤ (j : Int) := by omega
            clear hj8 hy'
            go_wp2_with fail
            refine (qbyte_calls g A c l ⟨a', y', f'⟩ wr H.out.2.2.1).mono ?_
            rintro e w5 ⟨x, s5, rfl, hq5, hb5⟩
            have hk5 := H.out.2.1.but hb5 (by omega)
            have hr5 := H.out.1.but hb5 (by omega)
            have hcl := key_at hk5 j (by omega)
            have hfr := hk5.free j
            have hst := key_set1 hk5 j x
            obtain ⟨u, hu⟩ : ∃ u, u = v8 (k[j]'(by omega)) := ⟨_, rfl⟩
            rw [← hu] at hcl
            have H5 := Lib.hid (And.intro (key_setc hr5 (show W.heap.size ≠ W.heap.size + 1 by omega) j (.int .u8 (x.toNat : Int))) (And.intro hst (And.intro (qst_setc hq5 (show g < W.heap.size + 1 by omega) j (.int .u8 (x.toNat : Int))) (but_setc (H.out.2.2.2.1.trans hb5) (show W.heap.size ≤ W.heap.size + 1 by omega) j (.int .u8 (x.toNat : Int))))))
            clear hk5 hr5 hst hq5 hb5 hu q0 q1 q2 q3
            go_wp2_with fail
            refine ⟨⟨j + 1, k.set j x, s5, by omega, by go_num, by rw [List.length_set]; exact H.out.2.2.2.2, H5.out.1, H5.out.2.1, H5.out.2.2.1, H5.out.2.2.2⟩, by (first | (simp [intOf]; done) | (simp [intOf]; omega))⟩
          · have hyi' : ((y' : Int) == 0) = false := by rw [beq_eq_false_iff_ne]; omega
            clear hy' hj8
            obtain ⟨x0, x1, x2, x3, x4, x5, x6, x7, rfl⟩ := eight H.out.2.2.2.2
            obtain ⟨n0, n1, n2, n3, n4, n5, n6, n7⟩ := H.out.2.1.cells
            obtain ⟨r0, r1, r2, r3, r4, r5, r6, r7⟩ := H.out.1.zero
            have f0 := H.out.1.free 0; have f1 := H.out.1.free 1; have f2 := H.out.1.free 2; have f3 := H.out.1.free 3; have f4 := H.out.1.free 4; have f5 := H.out.1.free 5; have f6 := H.out.1.free 6; have f7 := H.out.1.free 7
            clear hk8
            go_wp2_with fail
            refine bodyPost_ret (v := keyV [x0, x1, x2, x3, x4, x5, x6, x7]) (by simp [results, Try.results41, go_sem, keyV, v8, r0, r1, r2, r3, r4, r5, r6, r7]) rfl ?_
            first | exact ⟨[x0, x1, x2, x3, x4, x5, x6, x7], ⟨a', y', f'⟩, rfl, rfl, qst_set8 H.out.2.2.1 hglt _ _ _ _ _ _ _ _, but_set8 H.out.2.2.2.1 (Nat.le_refl _) _ _ _ _ _ _ _ _⟩ | exact ⟨[x0, x1, x2, x3, x4, x5, x6, x7], rfl, rfl, ⟨⟨a', y', f'⟩, qst_set8 H.out.2.2.1 hglt _ _ _ _ _ _ _ _⟩, but_set8 H.out.2.2.2.1 (Nat.le_refl _) _ _ _ _ _ _ _ _⟩
        · have hj8i : ¬ (j : Int) < 8 := by omega
          obtain ⟨x0, x1, x2, x3, x4, x5, x6, x7, rfl⟩ := eight H.out.2.2.2.2
          obtain ⟨n0, n1, n2, n3, n4, n5, n6, n7⟩ := H.out.2.1.cells
          obtain ⟨r0, r1, r2, r3, r4, r5, r6, r7⟩ := H.out.1.zero
          have f0 := H.out.1.free 0; have f1 := H.out.1.free 1; have f2 := H.out.1.free 2; have f3 := H.out.1.free 3; have f4 := H.out.1.free 4; have f5 := H.out.1.free 5; have f6 := H.out.1.free 6; have f7 := H.out.1.free 7
          clear hk8
          go_wp2_with fail
          refine bodyPost_ret (v := keyV [x0, x1, x2, x3, x4, x5, x6, x7]) (by simp [results, Try.results41, go_sem, keyV, v8, r0, r1, r2, r3, r4, r5, r6, r7]) rfl ?_
          first | exact ⟨[x0, x1, x2, x3, x4, x5, x6, x7], ⟨a', y', f'⟩, rfl, rfl, qst_set8 H.out.2.2.1 hglt _ _ _ _ _ _ _ _, but_set8 H.out.2.2.2.1 (Nat.le_refl _) _ _ _ _ _ _ _ _⟩ | exact ⟨[x0, x1, x2, x3, x4, x5, x6, x7], rfl, rfl, ⟨⟨a', y', f'⟩, qst_set8 H.out.2.2.1 hglt _ _ _ _ _ _ _ _⟩, but_set8 H.out.2.2.2.1 (Nat.le_refl _) _ _ _ _ _ _ _ _⟩
    · have hyi : ((y : Int) == 0) = false := by rw [beq_eq_false_iff_ne]; omega
      clear hy hy0 hcap hbig
      go_enter Try.func41, Try.ntmps41
      go_wp2_with fail
      generalize (W.alloc (.cells #[.int .u8 0, .int .u8 0, .int .u8 0, .int .u8 0, .int .u8 0, .int .u8 0, .int .u8 0, .int .u8 0] 55)).alloc (.cells #[.int .u8 0, .int .u8 0, .int .u8 0, .int .u8 0, .int .u8 0, .int .u8 0, .int .u8 0, .int .u8 0] 55) = W2 at G hz2 k0 k1 k2 k3 ⊢
      go_quiet (fail)
      obtain ⟨s1, hs1e⟩ : ∃ s1 : Rs, s1 = ⟨a, y, f⟩ := ⟨_, rfl⟩
      have QL := Lib.hid (show KeyAt W.heap.size zero8 (W2.drewN nq) ∧ KeyAt (W.heap.size + 1) zero8 (W2.drewN nq) ∧ Qst g A c l s1 (W2.drewN nq) ∧ But g W (W2.drewN nq) from ⟨G.out.1, G.out.2.1, by rw [hs1e]; exact G.out.2.2.2.below (below_drewN (Below.refl _ _) nq), But.of_below (below_drewN G.out.2.2.1 nq)⟩)
      clear hs1e k0 k1 k2 k3
      generalize W2.drewN nq = Wl at QL ⊢
      go_wp2_with fail
      go_loopw [4] (fun i wr => ∃ (j : Nat) (k : List UInt8) (s' : Rs), j ≤ 8 ∧ i = .int .i64 (j : Int) ∧ k.length = 8 ∧ KeyAt W.heap.size zero8 wr ∧ KeyAt (W.heap.size + 1) k wr ∧ Qst g A c l s' wr ∧ But g W wr) (fun i _ => 8 - (intOf i).toNat)
      case atStart => exact ⟨0, zero8, s1, by omega, rfl, rfl, QL.out.1, QL.out.2.1, QL.out.2.2.1, QL.out.2.2.2⟩
      case round =>
        obtain ⟨j, k, s', hj, rfl, hk8, hr, hk, hq, hb⟩ := hrel
        obtain ⟨q0, q1, q2, q3⟩ := hq.cells
        obtain ⟨a', y', f'⟩ := s'
        simp only at q1 q2 q3
        have H := Lib.hid (And.intro hr (And.intro hk (And.intro hq (And.intro hb hk8))))
        clear hr hk hq hb
        by_cases hj8 : j < 8
        · have hj8i : (j : Int) < 8 := by omega
          by_cases hy' : y' = 0
          · have hyi' : ((y' : Int) == 0) = true := by rw [beq_iff_eq]; omega
            have hj0 : (0 : Int) ≤ (j : Int) := by omega
            clear hj8 hy'
            go_wp2_with fail
            refine (qbyte_calls g A c l ⟨a', y', f'⟩ wr H.out.2.2.1).mono ?_
            rintro e w5 ⟨x, s5, rfl, hq5, hb5⟩
            have hk5 := H.out.2.1.but hb5 (by omega)
            have hr5 := H.out.1.but hb5 (by omega)
            have hcl := key_at hk5 j (by omega)
            have hfr := hk5.free j
            have hst := key_set1 hk5 j x
            obtain ⟨u, hu⟩ : ∃ u, u = v8 (k[j]'(by omega)) := ⟨_, rfl⟩
            rw [← hu] at hcl
            have H5 := Lib.hid (And.intro (key_setc hr5 (show W.heap.size ≠ W.heap.size + 1 by omega) j (.int .u8 (x.toNat : Int))) (And.intro hst (And.intro (qst_setc hq5 (show g < W.heap.size + 1 by omega) j (.int .u8 (x.toNat : Int))) (but_setc (H.out.2.2.2.1.trans hb5) (show W.heap.size ≤ W.heap.size + 1 by omega) j (.int .u8 (x.toNat : Int))))))
            clear hk5 hr5 hst hq5 hb5 hu q0 q1 q2 q3
            go_wp2_with fail
            refine ⟨⟨j + 1, k.set j x, s5, by omega, by go_num, by rw [List.length_set]; exact H.out.2.2.2.2, H5.out.1, H5.out.2.1, H5.out.2.2.1, H5.out.2.2.2⟩, by (first | (simp [intOf]; done) | (simp [intOf]; omega))⟩
          · have hyi' : ((y' : Int) == 0) = false := by rw [beq_eq_false_iff_ne]; omega
            clear hy' hj8
            obtain ⟨x0, x1, x2, x3, x4, x5, x6, x7, rfl⟩ := eight H.out.2.2.2.2
            obtain ⟨n0, n1, n2, n3, n4, n5, n6, n7⟩ := H.out.2.1.cells
            obtain ⟨r0, r1, r2, r3, r4, r5, r6, r7⟩ := H.out.1.zero
            have f0 := H.out.1.free 0; have f1 := H.out.1.free 1; have f2 := H.out.1.free 2; have f3 := H.out.1.free 3; have f4 := H.out.1.free 4; have f5 := H.out.1.free 5; have f6 := H.out.1.free 6; have f7 := H.out.1.free 7
            clear hk8
            go_wp2_with fail
            refine bodyPost_ret (v := keyV [x0, x1, x2, x3, x4, x5, x6, x7]) (by simp [results, Try.results41, go_sem, keyV, v8, r0, r1, r2, r3, r4, r5, r6, r7]) rfl ?_
            first | exact ⟨[x0, x1, x2, x3, x4, x5, x6, x7], ⟨a', y', f'⟩, rfl, rfl, qst_set8 H.out.2.2.1 hglt _ _ _ _ _ _ _ _, but_set8 H.out.2.2.2.1 (Nat.le_refl _) _ _ _ _ _ _ _ _⟩ | exact ⟨[x0, x1, x2, x3, x4, x5, x6, x7], rfl, rfl, ⟨⟨a', y', f'⟩, qst_set8 H.out.2.2.1 hglt _ _ _ _ _ _ _ _⟩, but_set8 H.out.2.2.2.1 (Nat.le_refl _) _ _ _ _ _ _ _ _⟩
        · have hj8i : ¬ (j : Int) < 8 := by omega
          obtain ⟨x0, x1, x2, x3, x4, x5, x6, x7, rfl⟩ := eight H.out.2.2.2.2
          obtain ⟨n0, n1, n2, n3, n4, n5, n6, n7⟩ := H.out.2.1.cells
          obtain ⟨r0, r1, r2, r3, r4, r5, r6, r7⟩ := H.out.1.zero
          have f0 := H.out.1.free 0; have f1 := H.out.1.free 1; have f2 := H.out.1.free 2; have f3 := H.out.1.free 3; have f4 := H.out.1.free 4; have f5 := H.out.1.free 5; have f6 := H.out.1.free 6; have f7 := H.out.1.free 7
          clear hk8
          go_wp2_with fail
          refine bodyPost_ret (v := keyV [x0, x1, x2, x3, x4, x5, x6, x7]) (by simp [results, Try.results41, go_sem, keyV, v8, r0, r1, r2, r3, r4, r5, r6, r7]) rfl ?_
          first | exact ⟨[x0, x1, x2, x3, x4, x5, x6, x7], ⟨a', y', f'⟩, rfl, rfl, qst_set8 H.out.2.2.1 hglt _ _ _ _ _ _ _ _, but_set8 H.out.2.2.2.1 (Nat.le_refl _) _ _ _ _ _ _ _ _⟩ | exact ⟨[x0, x1, x2, x3, x4, x5, x6, x7], rfl, rfl, ⟨⟨a', y', f'⟩, qst_set8 H.out.2.2.1 hglt _ _ _ _ _ _ _ _⟩, but_set8 H.out.2.2.2.1 (Nat.le_refl _) _ _ _ _ _ _ _ _⟩
end Go.Proofs.Ytinilglljjffjaa.Cd
