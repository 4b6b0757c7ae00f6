/- The walks of folded, turned and counted numbers, and of the law on them. -/
import Derived.Test.YtbkhfkefkojdbaaDoorBitAlive
namespace Go.Proofs.YtbkhfkefkojdbaaDoor.Bit
set_option linter.unusedVariables false
set_option linter.unusedSimpArgs false
open Go.RowKit
open Go.Proofs.YtbkhfkefkojdbaaDoor.Num

theorem reffold_calls (n : Int) (h0 : -9223372036854775808 ≤ n) (h1 : n ≤ 9223372036854775807) (w : World) :
    Calls Tryd.prog 15 #[.int .i64 n] w fun e w' => e = .returned (.int .u64 (foldF n : Int)) ∧ w = w' := by
  by_cases h : 0 ≤ n
  · go_enter Tryd.func15, Tryd.ntmps15
    go_wp2_with fail
    go_ret
    refine ⟨?_, rfl⟩
    have e : (foldF n : Int) = 2 * n := by unfold foldF; rw [if_pos h]; omega
    rw [e]; rfl
  · have h2 : n < 0 := by omega
    go_enter Tryd.func15, Tryd.ntmps15
    go_wp2_with fail
    go_ret
    refine ⟨?_, rfl⟩
    have e : (foldF n : Int) = 2 * -(n + 1) + 1 := by unfold foldF; rw [if_neg (by omega)]; omega
    rw [e]; rfl
theorem refunfold_calls (n : Nat) (h1 : n < 18446744073709551616) (w : World) :
    Calls Tryd.prog 17 #[.int .u64 (n : Int)] w fun e w' => e = .returned (.int .i64 (unfoldF n)) ∧ w = w' := by
  by_cases h : n % 2 = 0
  · have hb : ((n : Int).tmod 2 == 0) = true := by rw [beq_iff_eq, Int.tmod_eq_emod_of_nonneg (by omega)]; omega
    go_enter Tryd.func17, Tryd.ntmps17
    go_wp2_with fail
    go_ret
    have e : unfoldF n = (n : Int) / 2 := by unfold unfoldF; rw [if_pos h]; omega
    rw [e]
    exact ⟨rfl, rfl⟩
  · have hb : ((n : Int).tmod 2 == 0) = false := by rw [beq_eq_false_iff_ne, Int.tmod_eq_emod_of_nonneg (by omega)]; omega
    go_enter Tryd.func17, Tryd.ntmps17
    go_wp2_with fail
    go_ret
    have e : unfoldF n = -((n : Int) / 2) - 1 := by unfold unfoldF; rw [if_neg h]; omega
    rw [e]
    exact ⟨rfl, rfl⟩
set_option maxRecDepth 100000 in
theorem next_calls (n : Nat) (h1 : n < 4294967296) (w : World) :
    Calls Tryd.prog 12 #[.int .u32 (n : Int)] w fun e w' => e = .returned (.tuple #[.int .u32 (if 2147483647 ≤ n then (n : Int) else (n : Int) + 1), .int .i64 (if 2147483647 ≤ n then 17 else 0)]) ∧ w = w' := by
  by_cases h : 2147483647 ≤ n
  · have hd : decide ((2147483647 : Int) ≤ (n : Int)) = true := decide_eq_true (by omega)
    have H := Lib.hid h
    clear h h1
    go_enter Tryd.func12, Tryd.ntmps12
    go_wp2_with fail
    go_ret2
    exact ⟨rfl, rfl⟩
  · have hd : decide ((2147483647 : Int) ≤ (n : Int)) = false := decide_eq_false (by omega)
    have e : ((n : Int) + 1) % 4294967296 = (n : Int) + 1 := by omega
    have H := Lib.hid h
    clear h h1
    go_enter Tryd.func12, Tryd.ntmps12
    go_wp2_with fail
    go_ret2
    exact ⟨rfl, rfl⟩
set_option maxRecDepth 100000 in
theorem refnext_calls (n : Nat) (h1 : n < 4294967296) (w : World) :
    Calls Tryd.prog 13 #[.int .u32 (n : Int)] w fun e w' => e = .returned (.tuple #[.int .u32 (if 2147483647 ≤ n then (n : Int) else (n : Int) + 1), .int .i64 (if 2147483647 ≤ n then 17 else 0)]) ∧ w = w' := by
  by_cases h : 2147483647 ≤ n
  · have hd : decide ((2147483647 : Int) ≤ (n : Int)) = true := decide_eq_true (by omega)
    have H := Lib.hid h
    clear h h1
    go_enter Tryd.func13, Tryd.ntmps13
    go_wp2_with fail
    go_ret2
    exact ⟨rfl, rfl⟩
  · have hd : decide ((2147483647 : Int) ≤ (n : Int)) = false := decide_eq_false (by omega)
    have e : ((n : Int) + 1) % 4294967296 = (n : Int) + 1 := by omega
    have H := Lib.hid h
    clear h h1
    go_enter Tryd.func13, Tryd.ntmps13
    go_wp2_with fail
    go_ret2
    exact ⟨rfl, rfl⟩
theorem rot_or (n k : Nat) (hn : n < 18446744073709551616) (hk : k < 64) : Go.bits .or .u64 (IntKind.u64.wrap ((n : Int) * 2 ^ k)) ((n : Int) / 2 ^ (64 - k)) = (rotN n k : Int) := by
  have h1 := quot_lt n hn (show k ≤ 64 by omega)
  have hr := rotN_lt n hn (show k ≤ 64 by omega)
  have hp : n * 2 ^ k % 18446744073709551616 = n % 2 ^ (64 - k) * 2 ^ k := by
    rw [← split64 (show k ≤ 64 by omega), Nat.mul_mod_mul_right]
  have e1 : IntKind.u64.wrap ((n : Int) * 2 ^ k) = ((n % 2 ^ (64 - k) * 2 ^ k : Nat) : Int) := by
    rw [Bit.wrap_u64, show (n : Int) * 2 ^ k = ((n * 2 ^ k : Nat) : Int) from by rw [Int.natCast_mul, Int.natCast_pow]; rfl, ← hp]
    omega
  have e2 : (n : Int) / 2 ^ (64 - k) = ((n / 2 ^ (64 - k) : Nat) : Int) := by rw [Int.natCast_ediv, Int.natCast_pow]; rfl
  unfold rotN at hr ⊢
  rw [e1, e2, bits_or_u64_nat _ _ (by omega) (by omega)]
  have := Nat.two_pow_add_eq_or_of_lt h1 (n % 2 ^ (64 - k))
  rw [Nat.mul_comm (2 ^ k)] at this
  rw [← this]
theorem rot_calls (n k : Nat) (j : Int) (hn : n < 18446744073709551616) (hk : k < 64) (hj : -64 < j) (hj' : j < 64) (hkj : j % 64 = (k : Int)) (w : World) :
    Calls Tryd.prog 33 #[.int .u64 (n : Int), .int .i64 j] w fun e w' => e = .returned (.int .u64 (rotN n k : Int)) ∧ w = w' := by
  have A : Go.bits .and .u64 (IntKind.u64.wrap j) 63 = (k : Int) := by
    obtain ⟨x, hx⟩ : ∃ x : Nat, IntKind.u64.wrap j = (x : Int) := ⟨(IntKind.u64.wrap j).toNat, by rw [Bit.wrap_u64]; omega⟩
    have hx2 : x % 64 = k := by rw [Bit.wrap_u64] at hx; omega
    have hxl : x < 18446744073709551616 := by rw [Bit.wrap_u64] at hx; omega
    rw [hx]
    have := bits_and_u64_nat x 63 hxl (by omega)
    rw [show x &&& 63 = x % 64 from Nat.and_two_pow_sub_one_eq_mod x 6, hx2] at this
    exact this
  obtain ⟨m, hm⟩ : ∃ m, m = 64 - k := ⟨_, rfl⟩
  have hO := rot_or n k hn hk
  rw [← hm] at hO
  have em : (64 : Int) - (k : Int) = (m : Int) := by omega
  have hm64 : m ≤ 64 := by omega
  have HO := Lib.hid hO
  clear hm
  go_enter Tryd.func33, Tryd.ntmps33
  go_wp2_with fail
  go_ret
  exact ⟨rfl, rfl⟩
theorem tmod64 (x : Int) : -64 < x.tmod 64 ∧ x.tmod 64 < 64 ∧ x.tmod 64 % 64 = x % 64 ∧ (wrap64 (x.tmod 64 + 64)).tmod 64 = x % 64 := by
  have a1 := Int.tmod_lt_of_pos x (show (0 : Int) < 64 by omega)
  have a2 := Int.lt_tmod_of_pos x (show (0 : Int) < 64 by omega)
  have a3 : x.tmod 64 % 64 = x % 64 := by rw [Int.tmod_def]; omega
  refine ⟨a2, a1, a3, ?_⟩
  have e : wrap64 (x.tmod 64 + 64) = x.tmod 64 + 64 := by unfold wrap64; omega
  rw [e, Int.tmod_eq_emod_of_nonneg (by omega)]
  omega
/-- Turned by any number of bits. -/
def turnF (n : Nat) (x : Int) : Nat := rotN n (x % 64).toNat
theorem turn_calls (n : Nat) (x : Int) (hn : n < 18446744073709551616) (h0 : -9223372036854775808 ≤ x) (h1 : x ≤ 9223372036854775807) (w : World) :
    Calls Tryd.prog 18 #[.int .u64 (n : Int), .int .i64 x] w fun e w' => e = .returned (.int .u64 (turnF n x : Int)) ∧ w = w' := by
  obtain ⟨t1, t2, t3, _⟩ := tmod64 x
  have hc := rot_calls n (x % 64).toNat (x.tmod 64) hn (by omega) t1 t2 (by rw [t3]; omega) w
  have HC := Lib.hid hc
  clear hc t1 t2 t3
  go_enter Tryd.func18, Tryd.ntmps18
  go_wp2_with fail
  refine HC.out.mono ?_
  rintro e w' ⟨rfl, rfl⟩
  go_wp2_with fail
  go_ret
  exact ⟨rfl, rfl⟩
set_option maxRecDepth 100000 in
theorem refturn_calls (n : Nat) (x : Int) (hn : n < 18446744073709551616) (h0 : -9223372036854775808 ≤ x) (h1 : x ≤ 9223372036854775807) (w : World) :
    Calls Tryd.prog 19 #[.int .u64 (n : Int), .int .i64 x] w fun e w' => e = .returned (.int .u64 (turnF n x : Int)) ∧ w = w' := by
  have E := (tmod64 x).2.2.2
  obtain ⟨k, hk⟩ : ∃ k : Nat, x % 64 = (k : Int) := ⟨(x % 64).toNat, by omega⟩
  have hk64 : k < 64 := by omega
  have hT : turnF n x = rotN n k := by unfold turnF; rw [hk, Int.toNat_natCast]
  rw [hk] at E
  rw [hT]
  have G := Lib.hid hn
  clear hT hk hn
  go_enter Tryd.func19, Tryd.ntmps19
  go_wp2_with fail
  go_loop [0, 5] (fun v i => ∃ j : Nat, j ≤ k ∧ i = .int .i64 (j : Int) ∧ v = .int .u64 (rotN n j : Int)) (fun _ i => k - (intOf i).toNat)
  case atStart => exact ⟨0, by omega, rfl, by rw [rotN_zero n G.out]⟩
  case round =>
    obtain ⟨j, hj, rfl, rfl⟩ := hrel
    by_cases hlt : j < k
    · have hst := rotN_step n G.out (show j < 64 by omega)
      have hl1 := rotN_lt n G.out (show j ≤ 64 by omega)
      have hl2 := rotN_lt n G.out (show j + 1 ≤ 64 by omega)
      obtain ⟨y, hy⟩ : ∃ y, y = rotN n j := ⟨_, rfl⟩
      obtain ⟨z, hz⟩ : ∃ z, z = rotN n (j + 1) := ⟨_, rfl⟩
      rw [← hy] at hst hl1 ⊢
      rw [← hz] at hst hl2
      have W1 : IntKind.u64.wrap (IntKind.u64.wrap ((y : Int) * 2) + IntKind.u64.wrap ((y : Int) / 9223372036854775808)) = (z : Int) := by rw [Bit.wrap_u64, Bit.wrap_u64, Bit.wrap_u64]; omega
      have HZ := Lib.hid (And.intro hz (And.intro hst (And.intro hl1 hl2)))
      clear hst hl1 hl2 hz hy
      go_wp2_with fail
      refine (power_calls 63 (by omega) _).mono ?_
      rintro e w' ⟨rfl, rfl⟩
      rw [show ((2 ^ 63 : Nat) : Int) = 9223372036854775808 from by decide]
      go_wp2_with fail
      go_round
      case rel => exact ⟨j + 1, by omega, by go_num, by rw [← HZ.out.1]⟩
      case measure => (first | (simp [intOf]; done) | (simp [intOf]; omega))
    · obtain rfl : j = k := by omega
      go_wp2_with fail
      go_ret
      exact ⟨rfl, rfl⟩

set_option maxRecDepth 100000 in
theorem BitsFolds_walk (n : Int) (m : Nat) (x : Int) (h0 : -9223372036854775808 ≤ n) (h1 : n ≤ 9223372036854775807) (hm : m < 18446744073709551616) (x0 : -9223372036854775808 ≤ x) (x1 : x ≤ 9223372036854775807) (w : World) (hT : TabAt 0 Lib.deBruijn64tab w) (hw : 0 < w.heap.size) :
    Calls Tryd.prog 4 #[.int .i64 n, .int .u64 (m : Int), .int .i64 x] w fun e w' => e = .returned (.bool true) ∧ Below w.heap.size w w' := by
  obtain ⟨z, hz⟩ : ∃ z, z = m % 4294967296 := ⟨_, rfl⟩
  have hz1 : z < 4294967296 := by omega
  have ez : (m : Int) % 4294967296 = (z : Int) := by omega
  have H1 := next_calls z hz1 w
  have H2 := refnext_calls z hz1 w
  obtain ⟨p, hp⟩ : ∃ p : Int, p = if 2147483647 ≤ z then (z : Int) else (z : Int) + 1 := ⟨_, rfl⟩
  obtain ⟨q, hq⟩ : ∃ q : Int, q = if 2147483647 ≤ z then 17 else 0 := ⟨_, rfl⟩
  have hqb : 0 ≤ q ∧ q ≤ 17 := by rw [hq]; split <;> omega
  rw [← hp, ← hq] at H1 H2
  have G := Lib.hid (And.intro H1 (And.intro H2 (And.intro (fold_calls n h0 h1 w) (And.intro (reffold_calls n h0 h1 w) (And.intro (unfold_calls m hm w) (And.intro (refunfold_calls m hm w) (And.intro (turn_calls m x hm x0 x1 w) (And.intro (refturn_calls m x hm x0 x1 w) (alive_calls w hT hw)))))))))
  clear H1 H2 hp hq hz hz1 hm h0 h1 x0 x1 hT hw
  go_enter Tryd.func4, Tryd.ntmps4
  go_wp2_with fail
  refine G.out.1.mono ?_
  rintro e w' ⟨rfl, rfl⟩
  go_wp2_with fail
  refine G.out.2.1.mono ?_
  rintro e w' ⟨rfl, rfl⟩
  go_wp2_with fail
  refine G.out.2.2.1.mono ?_
  rintro e w' ⟨rfl, rfl⟩
  go_wp2_with fail
  refine G.out.2.2.2.1.mono ?_
  rintro e w' ⟨rfl, rfl⟩
  go_wp2_with fail
  refine G.out.2.2.2.2.1.mono ?_
  rintro e w' ⟨rfl, rfl⟩
  go_wp2_with fail
  refine G.out.2.2.2.2.2.1.mono ?_
  rintro e w' ⟨rfl, rfl⟩
  go_wp2_with fail
  refine G.out.2.2.2.2.2.2.1.mono ?_
  rintro e w' ⟨rfl, rfl⟩
  go_wp2_with fail
  refine G.out.2.2.2.2.2.2.2.1.mono ?_
  rintro e w' ⟨rfl, rfl⟩
  go_wp2_with fail
  refine G.out.2.2.2.2.2.2.2.2.mono ?_
  rintro e w3 ⟨rfl, hb3⟩
  go_wp2_with fail
  go_ret
  exact ⟨rfl, hb3⟩
end Go.Proofs.YtbkhfkefkojdbaaDoor.Bit
