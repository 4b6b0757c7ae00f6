/- Plain facts on a set's list, and on sets with and without one node. -/
import Derived.Test.YtcgbjodeklknoaaDoorVBits
namespace Go.Proofs.YtcgbjodeklknoaaDoor.Bit
set_option linter.unusedVariables false
set_option linter.unusedSimpArgs false
open Go.RowKit

theorem bitN_nat (r : Nat) (hr : r < 64) : bitN (r : Int) = 2 ^ r := by unfold bitN; rw [if_neg (by omega), Int.toNat_natCast]
theorem testBit_with (s r i : Nat) (hr : r < 64) : (withF s (r : Int)).testBit i = (s.testBit i || decide (r = i)) := by
  unfold withF; rw [bitN_nat r hr, Nat.testBit_or, Nat.testBit_two_pow]
theorem without_bv (s : Nat) (n : Int) (hs : s < 18446744073709551616) : (BitVec.ofNat 64 s &&& ~~~ BitVec.ofNat 64 (bitN n)).toNat = withoutF s n := by
  have hb := bitN_lt n
  have h1 : (BitVec.ofNat 64 s).toNat = s := by rw [BitVec.toNat_ofNat]; exact Nat.mod_eq_of_lt (by omega)
  have h2 : (BitVec.ofNat 64 (bitN n)).toNat = bitN n := by rw [BitVec.toNat_ofNat]; exact Nat.mod_eq_of_lt (by omega)
  have e2 := BitVec.add_eq_or_of_and_eq_zero _ _ (bv_apart (BitVec.ofNat 64 s) (BitVec.ofNat 64 (bitN n)))
  rw [bv_join] at e2
  have e4 := congrArg BitVec.toNat e2
  have e5 : (BitVec.ofNat 64 s &&& BitVec.ofNat 64 (bitN n)).toNat = s &&& bitN n := by rw [BitVec.toNat_and, h1, h2]
  have e6 : (BitVec.ofNat 64 s &&& ~~~ BitVec.ofNat 64 (bitN n)).toNat ≤ s := by rw [BitVec.toNat_and, h1]; exact Nat.and_le_left
  have hle : s &&& bitN n ≤ s := Nat.and_le_left
  rw [BitVec.toNat_add, e5, h1] at e4
  unfold withoutF
  omega
theorem testBit_without (s r i : Nat) (hs : s < 18446744073709551616) (hr : r < 64) : (withoutF s (r : Int)).testBit i = (s.testBit i && !decide (r = i)) := by
  rw [← without_bv s (r : Int) hs, bitN_nat r hr, BitVec.toNat_and, Nat.testBit_and]
  have h1 : (BitVec.ofNat 64 s).toNat = s := by rw [BitVec.toNat_ofNat]; exact Nat.mod_eq_of_lt (by omega)
  rw [h1]
  by_cases hi : i < 64
  · congr 1
    have : (~~~ BitVec.ofNat 64 (2 ^ r)).toNat.testBit i = (~~~ BitVec.ofNat 64 (2 ^ r)).getLsbD i := rfl
    rw [this, BitVec.getLsbD_not, BitVec.getLsbD_ofNat, Nat.testBit_two_pow]
    simp [hi]
  · have : s.testBit i = false := Nat.testBit_lt_two_pow (Nat.lt_of_lt_of_le hs (Nat.pow_le_pow_right (n := 2) (by decide) (by omega : 64 ≤ i)))
    rw [this]; rfl
theorem hasF_nat (s r : Nat) (hr : r < 64) : hasF s (r : Int) = s.testBit r := by
  unfold hasF; rw [decide_eq_true (by omega), Bool.true_and, Int.toNat_natCast]
theorem with_lt (s : Nat) (n : Int) (hs : s < 18446744073709551616) : withF s n < 18446744073709551616 := Nat.or_lt_two_pow (n := 64) hs (bitN_lt n)
theorem without_lt (s : Nat) (n : Int) (hs : s < 18446744073709551616) : withoutF s n < 18446744073709551616 := by unfold withoutF; omega
theorem has_with (s r : Nat) (hr : r < 64) : hasF (withF s (r : Int)) (r : Int) = true := by rw [hasF_nat _ _ hr, testBit_with _ _ _ hr]; simp
theorem has_without (s r : Nat) (hs : s < 18446744073709551616) (hr : r < 64) : hasF (withoutF s (r : Int)) (r : Int) = false := by rw [hasF_nat _ _ hr, testBit_without _ _ _ hs hr]; simp
theorem without_with (s r : Nat) (hs : s < 18446744073709551616) (hr : r < 64) : withoutF (withF s (r : Int)) (r : Int) = withoutF s (r : Int) := by
  apply Nat.eq_of_testBit_eq
  intro i
  rw [testBit_without _ _ _ (with_lt s _ hs) hr, testBit_without _ _ _ hs hr, testBit_with _ _ _ hr]
  cases s.testBit i <;> by_cases h : r = i <;> simp [h]
theorem with_without (s r : Nat) (hs : s < 18446744073709551616) (hr : r < 64) : withF (withoutF s (r : Int)) (r : Int) = withF s (r : Int) := by
  apply Nat.eq_of_testBit_eq
  intro i
  rw [testBit_with _ _ _ hr, testBit_without _ _ _ hs hr, testBit_with _ _ _ hr]
  cases s.testBit i <;> by_cases h : r = i <;> simp [h]
theorem just_one (s r : Nat) (hs : s < 18446744073709551616) (hr : r < 64) : (withF s (r : Int) = s ∧ withoutF s (r : Int) ≠ s) ∨ (withF s (r : Int) ≠ s ∧ withoutF s (r : Int) = s) := by
  cases h : s.testBit r with
  | true =>
    left
    refine ⟨?_, fun e => ?_⟩
    · apply Nat.eq_of_testBit_eq
      intro i
      rw [testBit_with _ _ _ hr]
      by_cases hi : r = i
      · rw [← hi, h]; simp
      · simp [hi]
    · have := testBit_without s r r hs hr
      rw [e, h] at this
      simp at this
  | false =>
    right
    refine ⟨fun e => ?_, ?_⟩
    · have := testBit_with s r r hr
      rw [e, h] at this
      simp at this
    · apply Nat.eq_of_testBit_eq
      intro i
      rw [testBit_without _ _ _ hs hr]
      by_cases hi : r = i
      · rw [← hi, h]; simp
      · simp [hi]
/-- What is gathered of a list. -/
def gather (l : List Nat) : Nat := l.foldl (fun (a x : Nat) => withF a (x : Int)) 0
theorem gather_snoc (l : List Nat) (x : Nat) : gather (l ++ [x]) = withF (gather l) (x : Int) := by unfold gather; rw [List.foldl_append]; rfl
theorem gather_lt (l : List Nat) : gather l < 18446744073709551616 := by
  unfold gather
  have : ∀ (l : List Nat) (a : Nat), a < 18446744073709551616 → l.foldl (fun (a x : Nat) => withF a (x : Int)) a < 18446744073709551616 := by
    intro l
    induction l with
    | nil => intro a h; exact h
    | cons x l ih => intro a h; exact ih _ (with_lt a _ h)
  exact this l 0 (by omega)
theorem testBit_fold (l : List Nat) (hl : ∀ x ∈ l, x < 64) (i : Nat) : ∀ a, (l.foldl (fun (a x : Nat) => withF a (x : Int)) a).testBit i = (a.testBit i || decide (i ∈ l)) := by
  induction l with
  | nil => intro a; simp
  | cons x l ih =>
    intro a
    rw [List.foldl_cons, ih (fun y hy => hl y (List.mem_cons_of_mem _ hy)), testBit_with _ _ _ (hl x List.mem_cons_self), Bool.or_assoc]
    congr 1
    by_cases h1 : x = i
    · subst h1; simp
    · have h2 : ¬ i = x := fun h => h1 h.symm
      simp [h1, h2]
theorem mem_elems (s x : Nat) : x ∈ elems s ↔ x < 64 ∧ s.testBit x = true := by unfold elems; rw [List.mem_filter, List.mem_range]
theorem gather_elems (s : Nat) (hs : s < 18446744073709551616) : gather (elems s) = s := by
  apply Nat.eq_of_testBit_eq
  intro i
  unfold gather
  rw [testBit_fold _ (fun x hx => ((mem_elems s x).1 hx).1), Nat.zero_testBit, Bool.false_or]
  by_cases hi : i < 64
  · cases h : s.testBit i
    · rw [decide_eq_false]; intro h2; have := ((mem_elems s i).1 h2).2; rw [h] at this; cases this
    · exact decide_eq_true ((mem_elems s i).2 ⟨hi, h⟩)
  · have : s.testBit i = false := Nat.testBit_lt_two_pow (Nat.lt_of_lt_of_le hs (Nat.pow_le_pow_right (n := 2) (by decide) (by omega : 64 ≤ i)))
    rw [this, decide_eq_false]
    intro h2
    exact hi ((mem_elems s i).1 h2).1
theorem elems_rising (s : Nat) : (elems s).Pairwise (· < ·) := by
  unfold elems
  exact List.Pairwise.filter _ List.pairwise_lt_range
theorem elems_step (s j : Nat) (h : j + 1 < (elems s).length) : (elems s)[j]'(by omega) < (elems s)[j + 1] := List.pairwise_iff_getElem.1 (elems_rising s) j (j + 1) (by omega) h (by omega)
end Go.Proofs.YtcgbjodeklknoaaDoor.Bit
