/- Plain facts on short numbers. No program is in sight. -/
import Derived.Laws.BitsLemmas
namespace Go.Proofs.Ytinilglljjffjaa.Num
set_option linter.unusedVariables false
set_option linter.unusedSimpArgs false

/-- A number's short form: seven bits a byte, the lowest first; f: room enough. -/
def dig : Nat → Nat → List UInt8
  | 0, _ => []
  | f + 1, n => if n < 128 then [UInt8.ofNat n] else UInt8.ofNat (n % 128 + 128) :: dig f (n / 128)
def short (n : Nat) : List UInt8 := dig 10 n
/-- The number that bytes begin with: the number, how many bytes it has, the error; i bytes are read, n is their number. -/
def longG (i n : Nat) : List UInt8 → Nat × Nat × Nat
  | [] => (0, 0, 4)
  | c :: l => if 9 ≤ i ∧ 1 < c.toNat then (0, 0, 3)
    else if 128 ≤ c.toNat then longG (i + 1) (n + c.toNat % 128 * 2 ^ (7 * i)) l
    else if c.toNat = 0 ∧ 0 < i then (0, 0, 3)
    else (n + c.toNat % 128 * 2 ^ (7 * i), i + 1, 0)
def long (b : List UInt8) : Nat × Nat × Nat := longG 0 0 b

theorem dig_len (f n : Nat) : (dig f n).length ≤ f := by
  induction f generalizing n with
  | zero => simp [dig]
  | succ f ih =>
    unfold dig
    split
    · simp
    · simp; exact ih _
theorem dig_pos (f n : Nat) : 1 ≤ (dig (f + 1) n).length := by
  unfold dig
  split <;> simp
theorem pow_step (i : Nat) : 2 ^ (7 * (i + 1)) = 128 * 2 ^ (7 * i) := by
  rw [Nat.mul_succ, Nat.pow_add, Nat.mul_comm]
theorem pow_room {i : Nat} (h : i ≤ 8) : 2 ^ (64 - 7 * i) = 128 * 2 ^ (64 - 7 * (i + 1)) := by
  have : 64 - 7 * i = (64 - 7 * (i + 1)) + 7 := by omega
  rw [this, Nat.pow_add, Nat.mul_comm]
theorem longG_dig (b : List UInt8) (f w : Nat) : ∀ (i m : Nat), i ≤ 9 → w < 128 ^ (f + 1) → w < 2 ^ (64 - 7 * i) → (0 < i → 0 < w) →
    longG i m (dig (f + 1) w ++ b) = (m + w * 2 ^ (7 * i), i + (dig (f + 1) w).length, 0) := by
  induction f generalizing w with
  | zero =>
    intro i m hi hw hr h0
    have hw' : w < 128 := by simpa using hw
    have hc : (UInt8.ofNat w).toNat = w := by rw [UInt8.toNat_ofNat']; omega
    unfold dig
    rw [if_pos hw', List.singleton_append, longG, hc]
    have h9 : ¬ (9 ≤ i ∧ 1 < w) := by
      rintro ⟨h1, h2⟩
      have : i = 9 := by omega
      subst this
      simp at hr
      omega
    rw [if_neg h9, if_neg (by omega), if_neg (by omega), Nat.mod_eq_of_lt hw']
    rfl
  | succ f ih =>
    intro i m hi hw hr h0
    rw [dig]
    by_cases hw' : w < 128
    · have hc : (UInt8.ofNat w).toNat = w := by rw [UInt8.toNat_ofNat']; omega
      rw [if_pos hw', List.singleton_append, longG, hc]
      have h9 : ¬ (9 ≤ i ∧ 1 < w) := by
        rintro ⟨h1, h2⟩
        have : i = 9 := by omega
        subst this
        simp at hr
        omega
      rw [if_neg h9, if_neg (by omega), if_neg (by omega), Nat.mod_eq_of_lt hw']
      rfl
    · have hc : (UInt8.ofNat (w % 128 + 128)).toNat = w % 128 + 128 := by rw [UInt8.toNat_ofNat']; omega
      have h9 : i ≤ 8 := by
        rcases Nat.lt_or_ge i 9 with h | h
        · omega
        · have : i = 9 := by omega
          subst this
          simp at hr
          omega
      rw [if_neg hw', List.cons_append, longG, hc, if_neg (by omega), if_pos (by omega)]
      have hw2 : w / 128 < 128 ^ (f + 1) := by
        rw [Nat.pow_succ] at hw
        exact Nat.div_lt_of_lt_mul (by rw [Nat.mul_comm]; exact hw)
      have hr2 : w / 128 < 2 ^ (64 - 7 * (i + 1)) := by
        rw [pow_room h9] at hr
        exact Nat.div_lt_of_lt_mul hr
      rw [ih (w / 128) (i + 1) _ (by omega) hw2 hr2 (fun _ => by omega)]
      have e1 : (w % 128 + 128) % 128 = w % 128 := by omega
      have e2 : w * 2 ^ (7 * i) = w % 128 * 2 ^ (7 * i) + w / 128 * (128 * 2 ^ (7 * i)) := by
        rw [← Nat.mul_assoc, ← Nat.add_mul]
        congr 1
        omega
      rw [e1, pow_step, e2, List.length_cons]
      simp only [Prod.mk.injEq, and_true]
      exact ⟨by omega, by omega⟩
theorem long_short (n : Nat) (hn : n < 18446744073709551616) (b : List UInt8) : long (short n ++ b) = (n, (short n).length, 0) := by
  have := longG_dig b 9 n 0 0 (by omega) (Nat.lt_of_lt_of_le hn (by decide)) hn (by omega)
  unfold long short
  rw [this]
  simp
/-- What is long is the short form of its number. -/
theorem longG_ok (l : List UInt8) : ∀ (i n : Nat), i ≤ 9 → (longG i n l).2.2 = 0 → ∃ w j, (longG i n l).1 = n + w * 2 ^ (7 * i) ∧ (longG i n l).2.1 = i + j ∧ 1 ≤ j ∧ j ≤ l.length ∧ i + j ≤ 10 ∧ (0 < i → 0 < w) ∧ w < 2 ^ (64 - 7 * i) ∧ ∀ f, j ≤ f → dig f w = l.take j := by
  induction l with
  | nil => intro i n hi h; simp [longG] at h
  | cons c l ih =>
    intro i n hi h
    rw [longG] at h ⊢
    have hc := c.toNat_lt
    by_cases h9 : 9 ≤ i ∧ 1 < c.toNat
    · rw [if_pos h9] at h; simp at h
    · rw [if_neg h9] at h ⊢
      by_cases h128 : 128 ≤ c.toNat
      · rw [if_pos h128] at h ⊢
        have hi8 : i ≤ 8 := by omega
        obtain ⟨w, j, e1, e2, h1, h2, h3, h4, h5, h6⟩ := ih (i + 1) _ (by omega) h
        have hw := h4 (by omega)
        refine ⟨c.toNat % 128 + 128 * w, j + 1, ?_, by rw [e2]; omega, by omega, by rw [List.length_cons]; omega, by omega, fun _ => by omega, ?_, ?_⟩
        · rw [e1, pow_step, Nat.add_mul, Nat.mul_comm 128 w, Nat.mul_assoc]; omega
        · rw [pow_room hi8]
          have : w + 1 ≤ 2 ^ (64 - 7 * (i + 1)) := h5
          have := Nat.mul_le_mul_left 128 this
          omega
        · intro f hf
          obtain ⟨f, rfl⟩ : ∃ g, f = g + 1 := ⟨f - 1, by omega⟩
          rw [dig, if_neg (by omega)]
          have d1 : (c.toNat % 128 + 128 * w) % 128 + 128 = c.toNat := by omega
          have d2 : (c.toNat % 128 + 128 * w) / 128 = w := by omega
          rw [d1, d2, h6 f (by omega), List.take_succ_cons]
          simp
      · rw [if_neg h128] at h ⊢
        by_cases h0 : c.toNat = 0 ∧ 0 < i
        · rw [if_pos h0] at h; simp at h
        · rw [if_neg h0]
          have hm : c.toNat % 128 = c.toNat := Nat.mod_eq_of_lt (by omega)
          refine ⟨c.toNat, 1, by rw [hm], rfl, by omega, by simp, by omega, fun _ => by omega, ?_, ?_⟩
          · rcases Nat.lt_or_ge i 9 with h | h
            · have : 2 ^ 7 ≤ 2 ^ (64 - 7 * i) := Nat.pow_le_pow_right (by decide) (by omega)
              omega
            · have : i = 9 := by omega
              subst this
              simp
              omega
          · intro f hf
            obtain ⟨f, rfl⟩ : ∃ g, f = g + 1 := ⟨f - 1, by omega⟩
            rw [dig, if_pos (by omega)]
            simp
theorem long_ok (b : List UInt8) (h : (long b).2.2 = 0) : 1 ≤ (long b).2.1 ∧ (long b).2.1 ≤ b.length ∧ (long b).2.1 ≤ 10 ∧ (long b).1 < 18446744073709551616 ∧ short (long b).1 = b.take (long b).2.1 := by
  obtain ⟨w, j, e1, e2, h1, h2, h3, _, h5, h6⟩ := longG_ok b 0 0 (by omega) h
  unfold long short
  rw [e1, e2]
  simp only [Nat.mul_zero, Nat.pow_zero, Nat.mul_one, Nat.zero_add]
  exact ⟨h1, h2, by omega, by simpa using h5, h6 10 (by omega)⟩
theorem longG_err (l : List UInt8) : ∀ (i n : Nat), (longG i n l).2.2 ≠ 0 → (longG i n l).1 = 0 ∧ (longG i n l).2.1 = 0 := by
  induction l with
  | nil => intro i n h; exact ⟨rfl, rfl⟩
  | cons c l ih =>
    intro i n h
    rw [longG] at h ⊢
    split
    · exact ⟨rfl, rfl⟩
    · rename_i h1
      rw [if_neg h1] at h
      split
      · rename_i h2
        rw [if_pos h2] at h
        exact ih _ _ h
      · rename_i h2
        rw [if_neg h2] at h
        split
        · exact ⟨rfl, rfl⟩
        · rename_i h3
          rw [if_neg h3] at h
          exact absurd rfl h
theorem longG_le4 (l : List UInt8) : ∀ (i n : Nat), (longG i n l).2.2 ≤ 4 := by
  induction l with
  | nil => intro i n; exact Nat.le_refl _
  | cons c l ih =>
    intro i n
    rw [longG]
    split
    · simp
    · split
      · exact ih _ _
      · split <;> simp
theorem or128 (n : Nat) : Go.bits .or .u8 ((n : Int) % 256) 128 = ((UInt8.ofNat (n % 128 + 128)).toNat : Int) := by
  have key : ∀ x : Fin 256, Go.bits .or .u8 (x.val : Int) 128 = ((UInt8.ofNat (x.val % 128 + 128)).toNat : Int) := by decide +kernel
  have h := key ⟨n % 256, Nat.mod_lt _ (by decide)⟩
  have e : n % 256 % 128 = n % 128 := by omega
  simp only [e] at h
  rw [← h]
  congr 1
theorem not128 (c : UInt8) : Go.bits .andNot .u8 (c.toNat : Int) 128 = ((c.toNat % 128 : Nat) : Int) := by
  have key : ∀ x : Fin 256, Go.bits .andNot .u8 (x.val : Int) 128 = ((x.val % 128 : Nat) : Int) := by decide +kernel
  exact key ⟨c.toNat, c.toNat_lt⟩
end Go.Proofs.Ytinilglljjffjaa.Num
