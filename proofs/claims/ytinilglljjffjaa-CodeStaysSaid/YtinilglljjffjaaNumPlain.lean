/- Plain facts on numbers as bytes, the highest first. No program is in sight. -/
import Derived.Laws.BitsLemmas
namespace Go.Proofs.Ytinilglljjffjaa.Num
set_option linter.unusedVariables false
set_option linter.unusedSimpArgs false

/-- The byte i of n, from the lowest on. -/
def bt (n i : Nat) : UInt8 := UInt8.ofNat (n / 2 ^ (8 * i))
/-- The k lowest bytes of n, the highest first. -/
def be : Nat → Nat → List UInt8
  | 0, _ => []
  | k + 1, n => bt n k :: be k n
theorem length_be (k n : Nat) : (be k n).length = k := by
  induction k with
  | zero => rfl
  | succ k ih => rw [be, List.length_cons, ih]
/-- The number of bytes, the highest first. -/
def num (l : List UInt8) : Nat := l.foldl (fun a x => a * 256 + x.toNat) 0
theorem num_snoc (l : List UInt8) (x : UInt8) : num (l ++ [x]) = num l * 256 + x.toNat := by
  unfold num; rw [List.foldl_append]; rfl
theorem num_take (l : List UInt8) {k : Nat} (h : k < l.length) : num (l.take (k + 1)) = num (l.take k) * 256 + l[k].toNat := by
  rw [List.take_succ_eq_append_getElem h, num_snoc]
theorem fold_lt (l : List UInt8) (a : Nat) : l.foldl (fun a x => a * 256 + x.toNat) a < (a + 1) * 256 ^ l.length := by
  induction l generalizing a with
  | nil => simp
  | cons x l ih =>
    have h := ih (a * 256 + x.toNat)
    have hx := x.toNat_lt
    rw [List.foldl_cons, List.length_cons, Nat.pow_succ]
    refine Nat.lt_of_lt_of_le h ?_
    rw [Nat.mul_comm (256 ^ l.length) 256, ← Nat.mul_assoc]
    exact Nat.mul_le_mul_right _ (by omega)
theorem num_lt (l : List UInt8) : num l < 256 ^ l.length := by
  have := fold_lt l 0
  simpa [num] using this
theorem bt_val (n i : Nat) : ((n : Int) / (2 : Int) ^ (8 * i)) % 256 = ((bt n i).toNat : Int) := by
  unfold bt
  rw [UInt8.toNat_ofNat', Int.natCast_emod, Int.natCast_ediv, Int.natCast_pow]; rfl
theorem fold_be (k n a : Nat) : (be k n).foldl (fun a x => a * 256 + x.toNat) a = a * 2 ^ (8 * k) + n % 2 ^ (8 * k) := by
  induction k generalizing a with
  | zero => simp [be, Nat.mod_one]
  | succ k ih =>
    rw [be, List.foldl_cons, ih]
    have h1 : 2 ^ (8 * (k + 1)) = 2 ^ (8 * k) * 256 := by rw [Nat.mul_succ, Nat.pow_add]
    have h2 : n % 2 ^ (8 * (k + 1)) = n % 2 ^ (8 * k) + 2 ^ (8 * k) * (n / 2 ^ (8 * k) % 256) := by rw [h1, Nat.mod_mul]
    have h3 : (bt n k).toNat = n / 2 ^ (8 * k) % 256 := by unfold bt; rw [UInt8.toNat_ofNat']
    rw [h2, h3, h1, Nat.add_mul, Nat.mul_comm (n / 2 ^ (8 * k) % 256), Nat.mul_assoc, Nat.mul_comm 256]
    omega
theorem num_be (k n : Nat) : num (be k n) = n % 2 ^ (8 * k) := by
  have := fold_be k n 0
  simpa [num] using this
theorem wrap_u64 (n : Int) : IntKind.u64.wrap n = n % 18446744073709551616 := by simp [IntKind.wrap, IntKind.bits, IntKind.signed]
theorem pow_next (k : Nat) (hk : k + 1 ≤ 63) : ((2 ^ k : Nat) : Int) * 2 % 18446744073709551616 = ((2 ^ (k + 1) : Nat) : Int) := by
  have h1 : 2 ^ (k + 1) ≤ 2 ^ 63 := Nat.pow_le_pow_right (by decide) hk
  have h2 : 2 ^ (k + 1) = 2 ^ k * 2 := Nat.pow_succ ..
  omega
theorem bt_ref (n r : Nat) : (IntKind.u64.wrap ((n : Int) / (2 : Int) ^ (8 * r))).tmod 256 % 256 = ((bt n r).toNat : Int) := by
  rw [← bt_val, wrap_u64]
  generalize (n : Int) / (2 : Int) ^ (8 * r) = x
  rw [Int.tmod_eq_emod_of_nonneg (Int.emod_nonneg _ (by omega))]
  omega
theorem wraps_u64 (n : Int) (h0 : 0 ≤ n) (h1 : n < 2 ^ 64) : IntKind.u64.wrap n = n := by
  rw [wrap_u64]; omega
theorem num_lt_pow (l : List UInt8) (s : Nat) (hs : l.length ≤ s) (h8 : s ≤ 8) : num l < 2 ^ (8 * s) := by
  have h := num_lt l
  have h2 : (256 : Nat) ^ l.length = 2 ^ (8 * l.length) := by rw [Nat.pow_mul]
  rw [h2] at h
  exact Nat.lt_of_lt_of_le h (Nat.pow_le_pow_right (by decide) (by omega))
/-- A byte put behind a number, as the program writes it. -/
theorem get_prog (l : List UInt8) (k s : Nat) (hk : k < l.length) (hks : k < s) (hs : s ≤ 8) :
    Go.bits .or .u64 (IntKind.u64.wrap (((num (l.take k) : Nat) : Int) * 256)) (IntKind.u64.wrap (l[k].toNat : Int)) = ((num (l.take (k + 1)) : Nat) : Int) := by
  have h1 := num_lt_pow (l.take k) k (by simp; omega) (by omega)
  have h2 := num_lt_pow (l.take (k + 1)) (k + 1) (by simp; omega) (by omega)
  have h3 : 2 ^ (8 * (k + 1)) ≤ 2 ^ 64 := Nat.pow_le_pow_right (by decide) (by omega)
  have hx := l[k].toNat_lt
  rw [num_take l hk] at h2 ⊢
  rw [wraps_u64 _ (by omega) (by omega), wraps_u64 _ (by omega) (by omega)]
  rw [bits_join .u64 64 (by decide) wraps_u64 8 _ _ (by omega) (by omega) (by omega) (by omega) (by omega) (by omega)]
  omega
/-- The same as the reference writes it. -/
theorem get_ref (l : List UInt8) (k s : Nat) (hk : k < l.length) (hks : k < s) (hs : s ≤ 8) :
    IntKind.u64.wrap (IntKind.u64.wrap (((num (l.take k) : Nat) : Int) * 256) + IntKind.u64.wrap (l[k].toNat : Int)) = ((num (l.take (k + 1)) : Nat) : Int) := by
  have h1 := num_lt_pow (l.take k) k (by simp; omega) (by omega)
  have h2 := num_lt_pow (l.take (k + 1)) (k + 1) (by simp; omega) (by omega)
  have h3 : 2 ^ (8 * (k + 1)) ≤ 2 ^ 64 := Nat.pow_le_pow_right (by decide) (by omega)
  have hx := l[k].toNat_lt
  rw [num_take l hk] at h2 ⊢
  rw [wrap_u64, wrap_u64, wrap_u64]
  omega
end Go.Proofs.Ytinilglljjffjaa.Num
