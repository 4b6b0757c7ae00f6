/- Plain facts on sets of bits. No program is in sight. -/
import Derived.Lib.TrailingZeros
import Derived.Laws.Bits64b
namespace Go.Proofs.YtcgbjodeklknoaaDoor.Bit
set_option linter.unusedVariables false
set_option linter.unusedSimpArgs false

/-- What is in a set, rising. -/
def elems (s : Nat) : List Nat := (List.range 64).filter s.testBit
theorem elems_zero : elems 0 = [] := by decide
theorem filter_from {n c : Nat} (hc : c < n) (p q : Nat → Bool) (h0 : ∀ i, i < c → p i = false) (h1 : p c = true) (h2 : ∀ i, c < i → p i = q i) (h3 : ∀ i, i ≤ c → q i = false) :
    (List.range n).filter p = c :: (List.range n).filter q := by
  obtain ⟨d, rfl⟩ : ∃ d, n = c + 1 + d := ⟨n - c - 1, by omega⟩
  rw [List.range_add, List.filter_append, List.filter_append, List.range_succ, List.filter_append, List.filter_append]
  have e1 : (List.range c).filter p = [] := by
    rw [List.filter_eq_nil_iff]
    intro i hi
    rw [List.mem_range] at hi
    simp [h0 i hi]
  have e2 : (List.range c).filter q = [] := by
    rw [List.filter_eq_nil_iff]
    intro i hi
    rw [List.mem_range] at hi
    simp [h3 i (by omega)]
  have e3 : [c].filter p = [c] := by simp [h1]
  have e4 : [c].filter q = [] := by simp [h3 c (Nat.le_refl _)]
  have e5 : (List.map (fun x => c + 1 + x) (List.range d)).filter p = (List.map (fun x => c + 1 + x) (List.range d)).filter q := by
    apply List.filter_congr
    intro i hi
    obtain ⟨j, _, rfl⟩ := List.mem_map.1 hi
    exact h2 _ (by omega)
  rw [e1, e2, e3, e4, e5]
  rfl
theorem bit_form (c m : Nat) : (2 ^ c * (2 * m + 1)) &&& (2 ^ c * (2 * m + 1) - 1) = 2 ^ c * (2 * m) := by
  have hp : 0 < 2 ^ c := Nat.pow_pos (by decide)
  have e : 2 ^ c * (2 * m + 1) - 1 = 2 ^ c * (2 * m) + (2 ^ c - 1) := by rw [Nat.mul_add, Nat.mul_one]; omega
  apply Nat.eq_of_testBit_eq
  intro i
  rw [Nat.testBit_and, e, Nat.testBit_two_pow_mul, Nat.testBit_two_pow_mul, Nat.testBit_two_pow_mul_add _ (by omega)]
  by_cases hi : i < c
  · have : decide (i ≥ c) = false := decide_eq_false (by omega)
    simp [this]
  · rw [if_neg hi]
    have : decide (i ≥ c) = true := decide_eq_true (by omega)
    simp only [this, Bool.true_and]
    cases i - c with
    | zero => simp [Nat.testBit_zero]
    | succ j =>
      rw [Nat.testBit_succ, Nat.testBit_succ]
      have d1 : (2 * m + 1) / 2 = m := by omega
      have d2 : (2 * m) / 2 = m := by omega
      rw [d1, d2, Bool.and_self]
theorem elems_cons (s : Nat) (h0 : s ≠ 0) (h : s < 18446744073709551616) : elems s = Lib.ctz 64 s :: elems (s &&& (s - 1)) ∧ s &&& (s - 1) < s ∧ Lib.ctz 64 s < 64 := by
  obtain ⟨m, hm, hk⟩ := Lib.ctzFrom_spec 64 s (by omega) h
  have e : Lib.ctz 64 s = Lib.ctzFrom 64 s := by simp [Lib.ctz, h0]
  rw [e]
  have hf := bit_form (Lib.ctzFrom 64 s) m
  rw [← hm] at hf
  refine ⟨?_, ?_, hk⟩
  · unfold elems
    rw [hf]
    conv => lhs; rw [hm]
    refine filter_from hk _ _ ?_ ?_ ?_ ?_
    · intro i hi
      rw [Nat.testBit_two_pow_mul]
      simp
      omega
    · rw [Nat.testBit_two_pow_mul]; simp [Nat.testBit_zero]
    · intro i hi
      rw [Nat.testBit_two_pow_mul, Nat.testBit_two_pow_mul]
      congr 1
      obtain ⟨j, hj⟩ : ∃ j, i - Lib.ctzFrom 64 s = j + 1 := ⟨i - Lib.ctzFrom 64 s - 1, by omega⟩
      rw [hj, Nat.testBit_succ, Nat.testBit_succ]
      congr 1
      omega
    · intro i hi
      rw [Nat.testBit_two_pow_mul]
      by_cases h : i = Lib.ctzFrom 64 s
      · rw [h]; simp [Nat.testBit_zero]
      · have : decide (i ≥ Lib.ctzFrom 64 s) = false := decide_eq_false (by omega)
        simp [this]
  · have := @Nat.and_le_right s (s - 1)
    omega
theorem len_elems (s : Nat) : (elems s).length ≤ 64 := by
  have := List.length_filter_le s.testBit (List.range 64)
  rw [List.length_range] at this
  exact this
/-- 'set &= set - 1' as the program writes it. -/
theorem drop_prog (s : Nat) (h0 : s ≠ 0) (h : s < 18446744073709551616) : Go.bits .and .u64 (s : Int) (IntKind.u64.wrap ((s : Int) - 1)) = ((s &&& (s - 1) : Nat) : Int) := by
  have e : IntKind.u64.wrap ((s : Int) - 1) = ((s - 1 : Nat) : Int) := by rw [IntKind.wrap_u64]; omega
  rw [e, bits_and_u64_nat s _ h (by omega)]
end Go.Proofs.YtcgbjodeklknoaaDoor.Bit
