/- Plain facts on folded and turned numbers. No program is in sight. -/
import Derived.Laws.BitsLemmas
import Derived.Laws.Bits64
import Derived.Laws.Bits64b
import Derived.Test.YtcgbjodeklknoaaDoorMem
namespace Go.Proofs.YtcgbjodeklknoaaDoor.Bit
set_option linter.unusedVariables false
set_option linter.unusedSimpArgs false
open Go.RowKit

theorem wrap_u64 (n : Int) : IntKind.u64.wrap n = n % 18446744073709551616 := by simp [IntKind.wrap, IntKind.bits, IntKind.signed]
/-- Folded. -/
def foldF (n : Int) : Nat := (if 0 ≤ n then 2 * n else 2 * -(n + 1) + 1).toNat
/-- Unfolded. -/
def unfoldF (n : Nat) : Int := if n % 2 = 0 then ((n / 2 : Nat) : Int) else -((n / 2 : Nat) : Int) - 1
theorem fold_lt (n : Int) (h0 : -9223372036854775808 ≤ n) (h1 : n ≤ 9223372036854775807) : foldF n < 18446744073709551616 := by
  unfold foldF; split <;> omega
theorem fold_unfold (n : Nat) (h : n < 18446744073709551616) : foldF (unfoldF n) = n ∧ -9223372036854775808 ≤ unfoldF n ∧ unfoldF n ≤ 9223372036854775807 := by
  unfold unfoldF foldF
  split <;> (refine ⟨?_, by omega, by omega⟩; split <;> omega)
theorem xor_ones (a : Nat) (ha : a < 18446744073709551616) : a ^^^ 18446744073709551615 = 18446744073709551615 - a := by
  have h : (BitVec.ofNat 64 a ^^^ BitVec.allOnes 64).toNat = (~~~ BitVec.ofNat 64 a).toNat := by rw [BitVec.xor_allOnes]
  rw [BitVec.toNat_xor, BitVec.toNat_not, BitVec.toNat_allOnes, BitVec.toNat_ofNat, Nat.mod_eq_of_lt (by omega)] at h
  exact h
theorem fold_prog (n : Int) (h0 : -9223372036854775808 ≤ n) (h1 : n ≤ 9223372036854775807) :
    Go.bits .xor .u64 (IntKind.u64.wrap (IntKind.u64.wrap n * 2)) (IntKind.u64.wrap (n / 9223372036854775808)) = (foldF n : Int) := by
  by_cases h : 0 ≤ n
  · have e1 : IntKind.u64.wrap (IntKind.u64.wrap n * 2) = ((foldF n : Nat) : Int) := by
      rw [wrap_u64, wrap_u64]; unfold foldF; rw [if_pos h]; omega
    have e2 : IntKind.u64.wrap (n / 9223372036854775808) = ((0 : Nat) : Int) := by rw [wrap_u64]; omega
    rw [e1, e2, bits_xor_u64_nat _ _ (fold_lt n h0 h1) (by omega), Nat.xor_zero]
  · have e1 : IntKind.u64.wrap (IntKind.u64.wrap n * 2) = ((18446744073709551615 - foldF n : Nat) : Int) := by
      have := fold_lt n h0 h1
      rw [wrap_u64, wrap_u64]; unfold foldF at this ⊢; rw [if_neg h] at this ⊢; omega
    have e2 : IntKind.u64.wrap (n / 9223372036854775808) = ((18446744073709551615 : Nat) : Int) := by rw [wrap_u64]; omega
    have hl := fold_lt n h0 h1
    rw [e1, e2, bits_xor_u64_nat _ _ (by omega) (by omega), xor_ones _ (by omega)]
    congr 1
    omega
theorem and_one (n : Nat) (h : n < 18446744073709551616) : Go.bits .and .u64 (n : Int) 1 = ((n % 2 : Nat) : Int) := by
  have := bits_and_u64_nat n 1 h (by omega)
  rw [Nat.and_one_is_mod] at this
  exact this
theorem xor_i64_neg (a : Nat) (ha : a < 9223372036854775808) : Go.bits .xor .i64 (a : Int) (-1) = -(a : Int) - 1 := by
  have h1 : (BitVec.ofInt 64 (a : Int)).toNat = a := by
    rw [BitVec.ofInt_natCast, BitVec.toNat_ofNat]; exact Nat.mod_eq_of_lt (by omega)
  have h2 : (BitVec.ofInt 64 (-1)).toNat = 18446744073709551615 := by decide
  show IntKind.i64.wrap ((BitVec.ofInt 64 (a : Int) ^^^ BitVec.ofInt 64 (-1)).toNat : Int) = _
  rw [BitVec.toNat_xor, h1, h2, xor_ones a (by omega), IntKind.wrap_i64]
  omega
theorem xor_i64_zero (a : Nat) (ha : a < 9223372036854775808) : Go.bits .xor .i64 (a : Int) 0 = (a : Int) := by
  have h1 : (BitVec.ofInt 64 (a : Int)).toNat = a := by
    rw [BitVec.ofInt_natCast, BitVec.toNat_ofNat]; exact Nat.mod_eq_of_lt (by omega)
  have h2 : (BitVec.ofInt 64 0).toNat = 0 := by decide
  show IntKind.i64.wrap ((BitVec.ofInt 64 (a : Int) ^^^ BitVec.ofInt 64 0).toNat : Int) = _
  rw [BitVec.toNat_xor, h1, h2, Nat.xor_zero, IntKind.wrap_i64]
  omega
theorem unfold_prog (n : Nat) (h : n < 18446744073709551616) : Go.bits .xor .i64 ((n : Int) / 2) (wrap64 (-wrap64 (Go.bits .and .u64 (n : Int) 1))) = unfoldF n := by
  rw [and_one n h]
  unfold unfoldF
  by_cases hp : n % 2 = 0
  · rw [if_pos hp, hp]
    have e : wrap64 (-wrap64 ((0 : Nat) : Int)) = 0 := by unfold wrap64; rfl
    rw [e]
    exact xor_i64_zero (n / 2) (by omega)
  · rw [if_neg hp, show n % 2 = 1 from by omega]
    have e : wrap64 (-wrap64 ((1 : Nat) : Int)) = -1 := by unfold wrap64; rfl
    rw [e]
    exact xor_i64_neg (n / 2) (by omega)
/-- Turned by k bits. -/
def rotN (n k : Nat) : Nat := n % 2 ^ (64 - k) * 2 ^ k + n / 2 ^ (64 - k)
theorem split64 {k : Nat} (hk : k ≤ 64) : 2 ^ (64 - k) * 2 ^ k = 18446744073709551616 := by
  rw [← Nat.pow_add, show 64 - k + k = 64 from by omega]
theorem quot_lt (n : Nat) (hn : n < 18446744073709551616) {k : Nat} (hk : k ≤ 64) : n / 2 ^ (64 - k) < 2 ^ k := by
  apply Nat.div_lt_of_lt_mul
  rw [split64 hk]
  exact hn
theorem rotN_lt (n : Nat) (hn : n < 18446744073709551616) {k : Nat} (hk : k ≤ 64) : rotN n k < 18446744073709551616 := by
  have h1 := quot_lt n hn hk
  have h2 : n % 2 ^ (64 - k) < 2 ^ (64 - k) := Nat.mod_lt _ (Nat.pow_pos (by decide))
  have h3 : (n % 2 ^ (64 - k) + 1) * 2 ^ k ≤ 2 ^ (64 - k) * 2 ^ k := Nat.mul_le_mul_right _ h2
  rw [split64 hk, Nat.add_mul] at h3
  unfold rotN
  omega
theorem rotN_zero (n : Nat) (hn : n < 18446744073709551616) : rotN n 0 = n := by
  unfold rotN
  rw [Nat.sub_zero, Nat.mod_eq_of_lt (show n < 2 ^ 64 from hn), Nat.div_eq_of_lt (show n < 2 ^ 64 from hn)]
  omega
theorem rotN_back (n : Nat) (hn : n < 18446744073709551616) {k : Nat} (hk : k ≤ 64) : rotN (rotN n k) (64 - k) = n := by
  have h1 := quot_lt n hn hk
  have e : 64 - (64 - k) = k := by omega
  show rotN n k % 2 ^ (64 - (64 - k)) * 2 ^ (64 - k) + rotN n k / 2 ^ (64 - (64 - k)) = n
  rw [e]
  have a1 : rotN n k % 2 ^ k = n / 2 ^ (64 - k) := by
    unfold rotN
    rw [Nat.add_comm, Nat.add_mul_mod_self_right, Nat.mod_eq_of_lt h1]
  have a2 : rotN n k / 2 ^ k = n % 2 ^ (64 - k) := by
    unfold rotN
    rw [Nat.add_comm, Nat.add_mul_div_right _ _ (Nat.pow_pos (by decide)), Nat.div_eq_of_lt h1, Nat.zero_add]
  rw [a1, a2, Nat.mul_comm]
  exact Nat.div_add_mod _ _
theorem rotN_step (n : Nat) (hn : n < 18446744073709551616) {k : Nat} (hk : k < 64) : rotN n (k + 1) = (rotN n k * 2) % 18446744073709551616 + rotN n k / 9223372036854775808 := by
  obtain ⟨d, hd⟩ : ∃ d, 64 - k = d + 1 := ⟨63 - k, by omega⟩
  have hd2 : 64 - (k + 1) = d := by omega
  have hp : 2 ^ d * 2 ^ k = 9223372036854775808 := by rw [← Nat.pow_add, show d + k = 63 from by omega]
  have hq := quot_lt n hn (show k ≤ 64 by omega)
  unfold rotN
  rw [hd] at hq ⊢
  rw [hd2]
  have hpd : 2 ^ (d + 1) = 2 ^ d * 2 := Nat.pow_succ ..
  have hpk : 2 ^ (k + 1) = 2 ^ k * 2 := Nat.pow_succ ..
  have d0 : 0 < 2 ^ d := Nat.pow_pos (by decide)
  -- n = q 2^(d+1) + b 2^d + r
  have e1 : n / 2 ^ d = 2 * (n / 2 ^ (d + 1)) + n / 2 ^ d % 2 := by
    rw [hpd, ← Nat.div_div_eq_div_mul]; omega
  have e2 : n % 2 ^ (d + 1) = n % 2 ^ d + 2 ^ d * (n / 2 ^ d % 2) := by rw [hpd, Nat.mod_mul]
  have hr : n % 2 ^ d < 2 ^ d := Nat.mod_lt _ d0
  have hb : n / 2 ^ d % 2 < 2 := Nat.mod_lt _ (by decide)
  generalize n / 2 ^ d % 2 = b at e1 e2 hb
  generalize n / 2 ^ (d + 1) = q at *
  generalize n % 2 ^ d = r at *
  rw [e2, hpk, e1]
  have h4 : (r + 1) * 2 ^ k ≤ 2 ^ d * 2 ^ k := Nat.mul_le_mul_right _ hr
  rw [Nat.add_mul, hp] at h4
  have e5 : (r + 2 ^ d * b) * 2 ^ k = r * 2 ^ k + 9223372036854775808 * b := by rw [Nat.add_mul, ← hp, Nat.mul_right_comm]
  have e6 : r * (2 ^ k * 2) = r * 2 ^ k * 2 := by rw [Nat.mul_assoc]
  rw [e5, e6]
  generalize r * 2 ^ k = x at *
  generalize 2 ^ k = y at *
  omega
end Go.Proofs.YtcgbjodeklknoaaDoor.Bit
