/- The walk of the law on what is put and got. -/
import Derived.Test.YtbkhfkefkojdbaaDoorBitFolds
namespace Go.Proofs.YtbkhfkefkojdbaaDoor.Bit
set_option linter.unusedVariables false
set_option linter.unusedSimpArgs false
open Go.RowKit
open Go.Proofs.YtbkhfkefkojdbaaDoor.Num

theorem get_own {w : World} {base : Nat} {v : Value} {l : List UInt8} (h : Own8 w base 5 v l) (s : Nat) (h1 : 1 ≤ s) (h8 : s ≤ 8) (hs : s ≤ l.length) (x : Nat) (hx : num (l.take s) = x) :
    Calls Tryd.prog 20 #[v, .int .i64 (s : Int)] w fun e w' => e = .returned (.tuple #[.int .u64 (x : Int), .int .i64 0]) ∧ w = w' := by
  obtain ⟨A, c, rfl, hr, hc, _⟩ := h.row
  rw [← hx]
  exact get_calls A c l s w hr hc h1 h8 hs
theorem long_own' {w : World} {base : Nat} {v : Value} {l : List UInt8} (h : Own8 w base 5 v l) (hm : l.length ≤ 9223372036854775807) (x y : Nat) (hx : long l = (x, y, 0)) :
    Calls Tryd.prog 8 #[v] w fun e w' => e = .returned (.tuple #[.int .u64 (x : Int), .int .i64 (y : Int), .int .i64 0]) ∧ w = w' := by
  have := long_own h hm
  rw [hx] at this
  exact this
theorem put_nil (n k : Nat) (hk : k ≤ 8) (w : World) :
    Calls Tryd.prog 21 #[.slice none 0 0, .int .u64 (n : Int), .int .i64 (k : Int)] w fun e w' => ∃ v, e = .returned v ∧ Own8 w' w.heap.size 5 v (be k n) ∧ Below w.heap.size w w' := by
  have := put_calls none 0 [] n k w (.inl rfl) (fun _ => rfl) (by simp) hk
  rw [List.nil_append] at this
  exact this
theorem turn_back (n k : Nat) (hn : n < 18446744073709551616) (h1 : 1 ≤ k) (hk : k ≤ 8) : turnF (turnF n (k : Int)) (-(k : Int)) = n ∧ turnF n (k : Int) < 18446744073709551616 := by
  have e1 : turnF n (k : Int) = rotN n k := by unfold turnF; congr 1; omega
  have e2 : turnF (rotN n k) (-(k : Int)) = rotN (rotN n k) (64 - k) := by unfold turnF; congr 1; omega
  rw [e1, e2]
  exact ⟨rotN_back n hn (by omega), rotN_lt n hn (by omega)⟩

set_option maxHeartbeats 1000000 in
set_option maxRecDepth 100000 in
theorem BitsBack_walk (n s : Nat) (a : Option Addr) (c : Nat) (l : List UInt8) (hn : n < 18446744073709551616) (hs : s < 256) (w : World) (hr : Row8 w a l) (hc0 : a = none → c = 0) (hm : l.length ≤ 9223372036854775807) (hT : TabAt 0 Lib.deBruijn64tab w) (hw : 0 < w.heap.size) :
    Calls Tryd.prog 5 #[.int .u64 (n : Int), .int .u8 (s : Int), .slice a l.length c] w fun e w' => e = .returned (.bool true) ∧ Below w.heap.size w w' := by
  by_cases hl : 10000 < l.length
  · go_enter Tryd.func5, Tryd.ntmps5
    go_wp2_with fail
    refine (alive_calls w hT hw).mono ?_
    rintro e w' ⟨rfl, hb⟩
    go_wp2_with fail
    go_ret
    exact ⟨rfl, hb⟩
  · obtain ⟨r, hr8⟩ : ∃ r, r = s % 8 := ⟨_, rfl⟩
    obtain ⟨k, hk⟩ : ∃ k, k = r + 1 := ⟨_, rfl⟩
    have hk1 : 1 ≤ k := by omega
    have hk8 : k ≤ 8 := by omega
    have e1 : (s : Int).tmod 8 = (r : Int) := by rw [Int.tmod_eq_emod_of_nonneg (by omega)]; omega
    have e0 : wrap64 (s : Int) = (s : Int) := by unfold wrap64; omega
    have e2 : wrap64 ((r : Int) + 1) = (k : Int) := by unfold wrap64; omega
    obtain ⟨x, hx⟩ : ∃ x, x = n % 2 ^ (8 * k) := ⟨_, rfl⟩
    obtain ⟨P, hP⟩ : ∃ P, P = 2 ^ (8 * k) := ⟨_, rfl⟩
    have hnum : num (be k n) = x := by rw [num_be, hx]
    have hnum2 : num ((be k n ++ l).take k) = x := by
      rw [List.take_append_of_le_length (by rw [length_be]; omega), List.take_of_length_le (by rw [length_be]; omega), hnum]
    obtain ⟨tb1, tb2⟩ := turn_back n k hn hk1 hk8
    obtain ⟨f1, f2, f3⟩ := fold_unfold n hn
    obtain ⟨d, hd⟩ : ∃ d, d = (short n).length := ⟨_, rfl⟩
    have hd10 : d ≤ 10 := by rw [hd]; exact dig_len 10 n
    have hlong := long_short n hn l
    rw [← hd] at hlong
    have hsn : short n ≠ [] := by
      intro h0
      have := dig_pos 9 n
      unfold short at h0
      rw [h0] at this
      simp at this
    obtain ⟨u, hu⟩ : ∃ u, u = unfoldF n := ⟨_, rfl⟩
    obtain ⟨t, ht⟩ : ∃ t, t = turnF n (k : Int) := ⟨_, rfl⟩
    rw [← hu] at f1 f2 f3
    rw [← ht] at tb1 tb2
    have hUF := unfold_calls n hn
    rw [← hu] at hUF
    have hFF := fold_calls u f2 f3
    rw [f1] at hFF
    have hTT := turn_calls n (k : Int) hn (by omega) (by omega)
    rw [← ht] at hTT
    have hTB := turn_calls t (-(k : Int)) tb2 (by omega) (by omega)
    rw [tb1] at hTB
    have G := Lib.hid (And.intro hr (And.intro hc0 (And.intro hT (And.intro hnum2 (And.intro hlong (And.intro hUF (And.intro hFF (And.intro hTT (And.intro hTB (And.intro hn (And.intro hd (And.intro hk1 hk8))))))))))))
    by_cases hk7 : k < 8
    · have e3 : IntKind.u64.wrap (2 ^ (8 * k)) = (P : Int) := by
        have hp : 2 ^ (8 * k) ≤ 2 ^ 56 := Nat.pow_le_pow_right (by decide) (by omega)
        rw [Bit.wrap_u64, show (2 : Int) ^ (8 * k) = ((2 ^ (8 * k) : Nat) : Int) from by rw [Int.natCast_pow]; rfl, ← hP]
        rw [← hP] at hp
        omega
      have e4 : (n : Int).tmod (P : Int) = (x : Int) := by rw [Int.tmod_eq_emod_of_nonneg (by omega), hx, ← hP]; omega
      have hP0 : 0 < P := by rw [hP]; exact Nat.pow_pos (by decide)
      have eP : ((P : Int) == 0) = false := by rw [beq_eq_false_iff_ne]; omega
      clear hr hc0 hT hnum hnum2 hlong hUF hFF hTT hTB hd hu ht tb1 tb2 f1 f2 f3 hx hP hn hk hr8 hs hsn
      go_enter Tryd.func5, Tryd.ntmps5
      go_wp2_with fail
      refine (put_nil n k G.out.2.2.2.2.2.2.2.2.2.2.2.2 w).mono ?_
      rintro e w1 ⟨v1, rfl, ho1, hb1⟩
      have H1 := Lib.hid (And.intro ho1 (And.intro hb1 (G.out.1.below hb1)))
      clear ho1 hb1
      go_wp2_with (at_builtin; refine wpList_append8 rfl (Operand.tmp 34) (Operand.tmp 35) 22 rfl w.heap.size 5 Tryd.underlying22 info8 v1 (be k n) l a c rfl H1.out.1 rfl H1.out.2.2 G.out.2.1 (by rw [length_be]; omega) H1.out.2.1.size ?_; intro v2 w2 hown2 hg2; have H2 := Lib.hid (And.intro hown2 (grown_below H1.out.2.1 H1.out.2.1.size H1.out.1 (Nat.le_refl _) hg2)); clear hown2 hg2)
      refine (get_own H2.out.1 k hk1 hk8 (by rw [List.length_append, length_be]; omega) x G.out.2.2.2.1).mono ?_
      rintro e w' ⟨rfl, rfl⟩
      go_wp2_with fail
      refine (short_nil n _ G.out.2.2.2.2.2.2.2.2.2.1).mono ?_
      rintro e w3 ⟨v3, rfl, ho3, hb3⟩
      obtain ⟨A3, c3, rfl, _⟩ := ho3.row
      rw [← G.out.2.2.2.2.2.2.2.2.2.2.1]
      have H3 := Lib.hid (H2.out.2.trans (hb3.mono H2.out.2.size))
      clear ho3 hb3
      go_wp2_with fail
      refine (short_nil n _ G.out.2.2.2.2.2.2.2.2.2.1).mono ?_
      rintro e w4 ⟨v4, rfl, ho4, hb4⟩
      have hb5 := H3.out.trans (hb4.mono H3.out.size)
      have H4 := Lib.hid (And.intro (ho4.mono H3.out.size) (And.intro hb5 (G.out.1.below hb5)))
      clear ho4 hb4 hb5
      go_wp2_with (at_builtin; refine wpList_append8 rfl (Operand.tmp 45) (Operand.tmp 46) 22 rfl w.heap.size 5 Tryd.underlying22 info8 v4 (short n) l a c rfl H4.out.1 rfl H4.out.2.2 G.out.2.1 (by rw [← G.out.2.2.2.2.2.2.2.2.2.2.1]; omega) H4.out.2.1.size ?_; intro v5 w5 hown5 hg5; have H5 := Lib.hid (And.intro hown5 (grown_below H4.out.2.1 H4.out.2.1.size H4.out.1 (Nat.le_refl _) hg5)); clear hown5 hg5)
      refine (long_own' H5.out.1 (by rw [List.length_append, ← G.out.2.2.2.2.2.2.2.2.2.2.1]; omega) n d G.out.2.2.2.2.1).mono ?_
      rintro e w' ⟨rfl, rfl⟩
      go_wp2_with fail
      refine (G.out.2.2.2.2.2.1 _).mono ?_
      rintro e w' ⟨rfl, rfl⟩
      go_wp2_with fail
      refine (G.out.2.2.2.2.2.2.1 _).mono ?_
      rintro e w' ⟨rfl, rfl⟩
      go_wp2_with fail
      refine (G.out.2.2.2.2.2.2.2.1 _).mono ?_
      rintro e w' ⟨rfl, rfl⟩
      go_wp2_with fail
      refine (G.out.2.2.2.2.2.2.2.2.1 _).mono ?_
      rintro e w' ⟨rfl, rfl⟩
      go_wp2_with fail
      refine (alive_calls _ (tab_below G.out.2.2.1 H5.out.2 hw) (by have := H5.out.2.size; omega)).mono ?_
      rintro e w6 ⟨rfl, hb6⟩
      go_wp2_with fail
      go_ret
      exact ⟨rfl, H5.out.2.trans (hb6.mono H5.out.2.size)⟩
    · have hk9 : k = 8 := by omega
      have hxn : x = n := by rw [hx, hk9, Nat.mod_eq_of_lt hn]
      have hk7b : decide ((k : Int) < 8) = false := decide_eq_false (by omega)
      rw [hxn] at G
      obtain ⟨x', hx'⟩ : ∃ x', x' = n := ⟨_, rfl⟩
      clear hr hc0 hT hnum hnum2 hlong hUF hFF hTT hTB hd hu ht tb1 tb2 f1 f2 f3 hx hP hn hk hr8 hs hsn hxn hx' x' hk9 hk7
      go_enter Tryd.func5, Tryd.ntmps5
      go_wp2_with fail
      refine (put_nil n k G.out.2.2.2.2.2.2.2.2.2.2.2.2 w).mono ?_
      rintro e w1 ⟨v1, rfl, ho1, hb1⟩
      have H1 := Lib.hid (And.intro ho1 (And.intro hb1 (G.out.1.below hb1)))
      clear ho1 hb1
      go_wp2_with (at_builtin; refine wpList_append8 rfl (Operand.tmp 34) (Operand.tmp 35) 22 rfl w.heap.size 5 Tryd.underlying22 info8 v1 (be k n) l a c rfl H1.out.1 rfl H1.out.2.2 G.out.2.1 (by rw [length_be]; omega) H1.out.2.1.size ?_; intro v2 w2 hown2 hg2; have H2 := Lib.hid (And.intro hown2 (grown_below H1.out.2.1 H1.out.2.1.size H1.out.1 (Nat.le_refl _) hg2)); clear hown2 hg2)
      refine (get_own H2.out.1 k hk1 hk8 (by rw [List.length_append, length_be]; omega) n G.out.2.2.2.1).mono ?_
      rintro e w' ⟨rfl, rfl⟩
      go_wp2_with fail
      refine (short_nil n _ G.out.2.2.2.2.2.2.2.2.2.1).mono ?_
      rintro e w3 ⟨v3, rfl, ho3, hb3⟩
      obtain ⟨A3, c3, rfl, _⟩ := ho3.row
      rw [← G.out.2.2.2.2.2.2.2.2.2.2.1]
      have H3 := Lib.hid (H2.out.2.trans (hb3.mono H2.out.2.size))
      clear ho3 hb3
      go_wp2_with fail
      refine (short_nil n _ G.out.2.2.2.2.2.2.2.2.2.1).mono ?_
      rintro e w4 ⟨v4, rfl, ho4, hb4⟩
      have hb5 := H3.out.trans (hb4.mono H3.out.size)
      have H4 := Lib.hid (And.intro (ho4.mono H3.out.size) (And.intro hb5 (G.out.1.below hb5)))
      clear ho4 hb4 hb5
      go_wp2_with (at_builtin; refine wpList_append8 rfl (Operand.tmp 45) (Operand.tmp 46) 22 rfl w.heap.size 5 Tryd.underlying22 info8 v4 (short n) l a c rfl H4.out.1 rfl H4.out.2.2 G.out.2.1 (by rw [← G.out.2.2.2.2.2.2.2.2.2.2.1]; omega) H4.out.2.1.size ?_; intro v5 w5 hown5 hg5; have H5 := Lib.hid (And.intro hown5 (grown_below H4.out.2.1 H4.out.2.1.size H4.out.1 (Nat.le_refl _) hg5)); clear hown5 hg5)
      refine (long_own' H5.out.1 (by rw [List.length_append, ← G.out.2.2.2.2.2.2.2.2.2.2.1]; omega) n d G.out.2.2.2.2.1).mono ?_
      rintro e w' ⟨rfl, rfl⟩
      go_wp2_with fail
      refine (G.out.2.2.2.2.2.1 _).mono ?_
      rintro e w' ⟨rfl, rfl⟩
      go_wp2_with fail
      refine (G.out.2.2.2.2.2.2.1 _).mono ?_
      rintro e w' ⟨rfl, rfl⟩
      go_wp2_with fail
      refine (G.out.2.2.2.2.2.2.2.1 _).mono ?_
      rintro e w' ⟨rfl, rfl⟩
      go_wp2_with fail
      refine (G.out.2.2.2.2.2.2.2.2.1 _).mono ?_
      rintro e w' ⟨rfl, rfl⟩
      go_wp2_with fail
      refine (alive_calls _ (tab_below G.out.2.2.1 H5.out.2 hw) (by have := H5.out.2.size; omega)).mono ?_
      rintro e w6 ⟨rfl, hb6⟩
      go_wp2_with fail
      go_ret
      exact ⟨rfl, H5.out.2.trans (hb6.mono H5.out.2.size)⟩
end Go.Proofs.YtbkhfkefkojdbaaDoor.Bit
