/- The walks of sets with and without a node, and of the reference's functions on sets. -/
import Derived.Test.YtbkhfkefkojdbaaDoorSetOps
namespace Go.Proofs.YtbkhfkefkojdbaaDoor.Bit
set_option linter.unusedVariables false
set_option linter.unusedSimpArgs false
open Go.RowKit
open Go.Proofs.YtbkhfkefkojdbaaDoor.Num

theorem with_calls (s : Nat) (n : Int) (hs : s < 18446744073709551616) (h0 : -9223372036854775808 ≤ n) (h1 : n ≤ 9223372036854775807) (w : World) :
    Calls Tryd.prog 24 #[.int .u64 (s : Int), .int .i64 n] w fun e w' => e = .returned (.int .u64 (withF s n : Int)) ∧ w = w' := by
  have e1 : Go.bits .or .u64 (s : Int) (bitN n : Int) = (withF s n : Int) := bits_or_u64_nat s _ hs (bitN_lt n)
  obtain ⟨b, hb⟩ : ∃ b, b = bitN n := ⟨_, rfl⟩
  obtain ⟨x, hx⟩ : ∃ x, x = withF s n := ⟨_, rfl⟩
  have hc := bit_calls n h0 h1 w
  rw [← hx, ← hb] at e1
  rw [← hb] at hc
  rw [← hx]
  have HC := Lib.hid hc
  clear hc hx hb
  go_enter Tryd.func24, Tryd.ntmps24
  go_wp2_with fail
  refine HC.out.mono ?_
  rintro e w' ⟨rfl, rfl⟩
  go_wp2_with fail
  go_ret
  exact ⟨rfl, rfl⟩
theorem without_calls (s : Nat) (n : Int) (hs : s < 18446744073709551616) (h0 : -9223372036854775808 ≤ n) (h1 : n ≤ 9223372036854775807) (w : World) :
    Calls Tryd.prog 26 #[.int .u64 (s : Int), .int .i64 n] w fun e w' => e = .returned (.int .u64 (withoutF s n : Int)) ∧ w = w' := by
  have e1 := not_prog s n hs
  obtain ⟨b, hb⟩ : ∃ b, b = bitN n := ⟨_, rfl⟩
  obtain ⟨x, hx⟩ : ∃ x, x = withoutF s n := ⟨_, rfl⟩
  have hc := bit_calls n h0 h1 w
  rw [← hx, ← hb] at e1
  rw [← hb] at hc
  rw [← hx]
  have HC := Lib.hid hc
  clear hc hx hb
  go_enter Tryd.func26, Tryd.ntmps26
  go_wp2_with fail
  refine HC.out.mono ?_
  rintro e w' ⟨rfl, rfl⟩
  go_wp2_with fail
  go_ret
  exact ⟨rfl, rfl⟩
theorem count_calls (s : Nat) (hs : s < 18446744073709551616) (w : World) :
    Calls Tryd.prog 28 #[.int .u64 (s : Int)] w fun e w' => e = .returned (.int .i64 ((elems s).length : Int)) ∧ w = w' := by
  have HC := Lib.hid (ones_calls s hs w)
  go_enter Tryd.func28, Tryd.ntmps28
  go_wp2_with fail
  refine HC.out.mono ?_
  rintro e w' ⟨rfl, rfl⟩
  go_wp2_with fail
  go_ret
  exact ⟨rfl, rfl⟩
theorem div_bit (s j : Nat) (hj : j < 64) (hs : s < 18446744073709551616) : ((IntKind.u64.wrap ((s : Int) / ((2 ^ j : Nat) : Int))).tmod 2 == 1) = hasF s (j : Int) := by
  have hle : s / 2 ^ j ≤ s := Nat.div_le_self _ _
  have e : IntKind.u64.wrap ((s : Int) / ((2 ^ j : Nat) : Int)) = ((s / 2 ^ j : Nat) : Int) := by
    rw [← Int.natCast_ediv, Bit.wrap_u64]
    generalize s / 2 ^ j = q at hle
    omega
  unfold hasF
  rw [e, Int.tmod_eq_emod_of_nonneg (Int.natCast_nonneg _), decide_eq_true (show (0 : Int) ≤ (j : Int) ∧ (j : Int) < 64 by omega), Bool.true_and, Int.toNat_natCast, Nat.testBit_eq_decide_div_mod_eq]
  generalize s / 2 ^ j = q
  by_cases h : q % 2 = 1
  · rw [decide_eq_true h, beq_iff_eq]; omega
  · rw [decide_eq_false h, beq_eq_false_iff_ne]; omega
theorem refhas_calls (s : Nat) (n : Int) (hs : s < 18446744073709551616) (h0 : -9223372036854775808 ≤ n) (h1 : n ≤ 9223372036854775807) (w : World) :
    Calls Tryd.prog 23 #[.int .u64 (s : Int), .int .i64 n] w fun e w' => e = .returned (.bool (hasF s n)) ∧ w = w' := by
  by_cases h2 : 0 ≤ n
  · by_cases h3 : n < 64
    · obtain ⟨j, rfl⟩ : ∃ j : Nat, n = (j : Int) := ⟨n.toNat, by omega⟩
      have hd := div_bit s j (by omega) hs
      have hp : 0 < 2 ^ j := Nat.pow_pos (by decide)
      have HP := Lib.hid (And.intro (power_calls j (by omega) w) hd)
      obtain ⟨P, hP⟩ : ∃ P, P = 2 ^ j := ⟨_, rfl⟩
      rw [← hP] at HP hp
      clear hd hP
      have eP : ((P : Int) == 0) = false := by rw [beq_eq_false_iff_ne]; omega
      go_enter Tryd.func23, Tryd.ntmps23
      go_wp2_with fail
      refine HP.out.1.mono ?_
      rintro e w' ⟨rfl, rfl⟩
      go_wp2_with fail
      go_ret
      rw [← HP.out.2]
      exact ⟨rfl, rfl⟩
    · have e : hasF s n = false := by unfold hasF; rw [decide_eq_false (by omega)]; rfl
      rw [e]
      go_enter Tryd.func23, Tryd.ntmps23
      go_wp2_with fail
      go_ret
      exact ⟨rfl, rfl⟩
  · have e : hasF s n = false := by unfold hasF; rw [decide_eq_false (by omega)]; rfl
    rw [e]
    go_enter Tryd.func23, Tryd.ntmps23
    go_wp2_with fail
    go_ret
    exact ⟨rfl, rfl⟩
theorem withF_has (s : Nat) (n : Int) (h : hasF s n = true) : withF s n = s := by
  rcases and_bit_cases s n with ⟨_, h2, _⟩ | ⟨h1, _⟩
  · unfold withF
    apply Nat.eq_of_testBit_eq
    intro i
    have h3 := congrArg (fun z => z.testBit i) h2
    simp only [Nat.testBit_and] at h3
    rw [Nat.testBit_or, ← h3]
    cases s.testBit i <;> simp
  · rw [h] at h1; cases h1
theorem withF_out (s : Nat) (n : Int) (h : n < 0 ∨ 64 ≤ n) : withF s n = s := by
  unfold withF bitN
  rw [if_pos h, Nat.or_zero]
theorem withF_new (s j : Nat) (hj : j < 64) (hs : s < 18446744073709551616) (h : hasF s (j : Int) = false) : withF s (j : Int) = s + 2 ^ j ∧ s + 2 ^ j < 18446744073709551616 := by
  have hb : bitN (j : Int) = 2 ^ j := by unfold bitN; rw [if_neg (by omega), Int.toNat_natCast]
  rcases and_bit_cases s (j : Int) with ⟨h1, _⟩ | ⟨_, h2⟩
  · rw [h] at h1; cases h1
  · have hl := bitN_lt (j : Int)
    have e := or_add s (bitN (j : Int)) hs hl h2
    have hlt : s ||| bitN (j : Int) < 2 ^ 64 := Nat.or_lt_two_pow hs hl
    rw [e, hb] at hlt
    unfold withF
    rw [e, hb]
    exact ⟨rfl, hlt⟩
theorem refwith_calls (s : Nat) (n : Int) (hs : s < 18446744073709551616) (h0 : -9223372036854775808 ≤ n) (h1 : n ≤ 9223372036854775807) (w : World) :
    Calls Tryd.prog 25 #[.int .u64 (s : Int), .int .i64 n] w fun e w' => e = .returned (.int .u64 (withF s n : Int)) ∧ w = w' := by
  by_cases h2 : n < 0
  · rw [withF_out s n (.inl h2)]
    go_enter Tryd.func25, Tryd.ntmps25
    go_wp2_with fail
    go_ret
    exact ⟨rfl, rfl⟩
  · by_cases h3 : 63 < n
    · rw [withF_out s n (.inr (by omega))]
      go_enter Tryd.func25, Tryd.ntmps25
      go_wp2_with fail
      go_ret
      exact ⟨rfl, rfl⟩
    · obtain ⟨j, rfl⟩ : ∃ j : Nat, n = (j : Int) := ⟨n.toNat, by omega⟩
      have hc := Lib.hid (refhas_calls s (j : Int) hs h0 h1 w)
      cases hh : hasF s (j : Int) with
      | true =>
        rw [withF_has s _ hh]
        rw [hh] at hc
        clear hh
        go_enter Tryd.func25, Tryd.ntmps25
        go_wp2_with fail
        refine hc.out.mono ?_
        rintro e w' ⟨rfl, rfl⟩
        go_wp2_with fail
        go_ret
        exact ⟨rfl, rfl⟩
      | false =>
        obtain ⟨e1, e2⟩ := withF_new s j (by omega) hs hh
        rw [e1]
        rw [hh] at hc
        have hp := Lib.hid (power_calls j (by omega) w)
        obtain ⟨P, hP⟩ : ∃ P, P = 2 ^ j := ⟨_, rfl⟩
        rw [← hP] at hp e2 ⊢
        have W1 : IntKind.u64.wrap ((s : Int) + (P : Int)) = ((s + P : Nat) : Int) := by rw [Bit.wrap_u64]; omega
        obtain ⟨r, hr⟩ : ∃ r, r = s + P := ⟨_, rfl⟩
        rw [← hr] at W1 ⊢
        clear hh e1 e2 hP hr hs
        go_enter Tryd.func25, Tryd.ntmps25
        go_wp2_with fail
        refine hc.out.mono ?_
        rintro e w' ⟨rfl, rfl⟩
        go_wp2_with fail
        refine hp.out.mono ?_
        rintro e w' ⟨rfl, rfl⟩
        go_wp2_with fail
        go_ret
        exact ⟨rfl, rfl⟩
theorem withoutF_not (s : Nat) (n : Int) (h : hasF s n = false) : withoutF s n = s := by
  rcases and_bit_cases s n with ⟨h1, _⟩ | ⟨_, h2⟩
  · rw [h] at h1; cases h1
  · unfold withoutF; rw [h2]; rfl
theorem withoutF_in (s : Nat) (n : Int) (h : hasF s n = true) : ∃ j : Nat, n = (j : Int) ∧ j < 64 ∧ withoutF s n = s - 2 ^ j ∧ 2 ^ j ≤ s := by
  rcases and_bit_cases s n with ⟨_, h2, h3, h4, h5⟩ | ⟨h1, _⟩
  · obtain ⟨j, rfl⟩ : ∃ j : Nat, n = (j : Int) := ⟨n.toNat, by omega⟩
    rw [Int.toNat_natCast] at h3
    have hle : s &&& bitN (j : Int) ≤ s := Nat.and_le_left
    rw [h2, h3] at hle
    exact ⟨j, rfl, by omega, by unfold withoutF; rw [h2, h3], hle⟩
  · rw [h] at h1; cases h1
theorem refwithout_calls (s : Nat) (n : Int) (hs : s < 18446744073709551616) (h0 : -9223372036854775808 ≤ n) (h1 : n ≤ 9223372036854775807) (w : World) :
    Calls Tryd.prog 27 #[.int .u64 (s : Int), .int .i64 n] w fun e w' => e = .returned (.int .u64 (withoutF s n : Int)) ∧ w = w' := by
  have hc := Lib.hid (refhas_calls s n hs h0 h1 w)
  cases hh : hasF s n with
  | false =>
    rw [withoutF_not s n hh]
    rw [hh] at hc
    clear hh
    go_enter Tryd.func27, Tryd.ntmps27
    go_wp2_with fail
    refine hc.out.mono ?_
    rintro e w' ⟨rfl, rfl⟩
    go_wp2_with fail
    go_ret
    exact ⟨rfl, rfl⟩
  | true =>
    obtain ⟨j, rfl, hj, e1, hle⟩ := withoutF_in s n hh
    rw [e1]
    rw [hh] at hc
    have hp := Lib.hid (power_calls j (by omega) w)
    obtain ⟨P, hP⟩ : ∃ P, P = 2 ^ j := ⟨_, rfl⟩
    rw [← hP] at hp hle ⊢
    have W1 : IntKind.u64.wrap ((s : Int) - (P : Int)) = ((s - P : Nat) : Int) := by rw [Bit.wrap_u64]; omega
    obtain ⟨r, hr⟩ : ∃ r, r = s - P := ⟨_, rfl⟩
    rw [← hr] at W1 ⊢
    clear hh e1 hle hP hr hs
    go_enter Tryd.func27, Tryd.ntmps27
    go_wp2_with fail
    refine hc.out.mono ?_
    rintro e w' ⟨rfl, rfl⟩
    go_wp2_with fail
    refine hp.out.mono ?_
    rintro e w' ⟨rfl, rfl⟩
    go_wp2_with fail
    go_ret
    exact ⟨rfl, rfl⟩
end Go.Proofs.YtbkhfkefkojdbaaDoor.Bit
