/- Plain facts on CRC-32C over bit vectors: its step is linear and injective. No program is in sight. -/
import Derived.Laws.BitsLemmas
namespace Go.Proofs.Ytocbogagfdbcmaa.Crc
set_option linter.unusedVariables false
set_option linter.unusedSimpArgs false

/-- One bit's step. -/
def bit (c : BitVec 32) : BitVec 32 := (c >>> 1) ^^^ (if c.toNat % 2 = 1 then 0x82F63B78#32 else 0#32)
/-- So many steps of f. -/
def rep (f : BitVec 32 → BitVec 32) : Nat → BitVec 32 → BitVec 32
  | 0, c => c
  | n + 1, c => f (rep f n c)
/-- A byte's eight steps. -/
def eight (c : BitVec 32) : BitVec 32 := rep bit 8 c
/-- The value that a bit vector is. -/
def u (c : BitVec 32) : Int := (c.toNat : Int)
theorem u_lo (c : BitVec 32) : 0 ≤ u c := Int.natCast_nonneg _
theorem u_hi (c : BitVec 32) : u c < 4294967296 := by have := c.isLt; unfold u; omega
theorem u_inj {a b : BitVec 32} (h : u a = u b) : a = b := by
  apply BitVec.eq_of_toNat_eq; unfold u at h; omega
theorem u_of (n : Int) (h0 : 0 ≤ n) (h1 : n < 4294967296) : u (BitVec.ofInt 32 n) = n := by
  unfold u; rw [BitVec.toNat_ofInt]; omega
theorem of_u (c : BitVec 32) : BitVec.ofInt 32 (u c) = c := by
  unfold u; apply BitVec.eq_of_toNat_eq; rw [BitVec.toNat_ofInt]; have := c.isLt; omega
theorem wrap_u (c : BitVec 32) : IntKind.u32.wrap ((c.toNat : Nat) : Int) = u c := by
  rw [IntKind.wrap_u32]; have := c.isLt; unfold u; omega
theorem xor_u (a b : BitVec 32) : Go.bits .xor .u32 (u a) (u b) = u (a ^^^ b) := by
  have h : Go.bits .xor .u32 (u a) (u b) = IntKind.u32.wrap (((BitVec.ofInt 32 (u a) ^^^ BitVec.ofInt 32 (u b)).toNat : Nat) : Int) := rfl
  rw [h, of_u, of_u, wrap_u]
theorem and_u (a b : BitVec 32) : Go.bits .and .u32 (u a) (u b) = u (a &&& b) := by
  have h : Go.bits .and .u32 (u a) (u b) = IntKind.u32.wrap (((BitVec.ofInt 32 (u a) &&& BitVec.ofInt 32 (u b)).toNat : Nat) : Int) := rfl
  rw [h, of_u, of_u, wrap_u]
theorem neg_u (a : BitVec 32) : (-(u a)) % 4294967296 = u (-a) := by
  unfold u; rw [BitVec.toNat_neg]; have := a.isLt; omega
theorem shr_u (a : BitVec 32) (n : Nat) : u a / 2 ^ n = u (a >>> n) := by
  unfold u; rw [BitVec.toNat_ushiftRight, Nat.shiftRight_eq_div_pow]; simp
theorem half_u (a : BitVec 32) : u a / (2 : Int) = u (a >>> 1) := by
  unfold u; rw [BitVec.toNat_ushiftRight, Nat.shiftRight_eq_div_pow]; omega
theorem not_u (a : BitVec 32) : Go.bits .xor .u32 4294967295 (u a) = u (~~~a) := by
  have h := xor_u 0xFFFFFFFF#32 a
  rw [show u 0xFFFFFFFF#32 = 4294967295 from rfl] at h
  rw [h, show (0xFFFFFFFF#32) = BitVec.allOnes 32 from rfl, BitVec.allOnes_xor]
theorem not_u' (a : BitVec 32) : Go.bits .xor .u32 IntKind.u32.max (u a) = u (~~~a) := not_u a

/-- A byte's way in. -/
def byte (c : BitVec 32) (x : UInt8) : BitVec 32 := eight (c ^^^ BitVec.ofNat 32 x.toNat)
/-- The inner number behind so many bytes. -/
def runs (c : BitVec 32) (l : List UInt8) : BitVec 32 := l.foldl byte c
theorem runs_snoc (c : BitVec 32) (l : List UInt8) {k : Nat} (h : k < l.length) : runs c (l.take (k + 1)) = byte (runs c (l.take k)) l[k] := by
  unfold runs; rw [List.take_succ_eq_append_getElem h, List.foldl_append]; rfl
theorem in_byte (c : BitVec 32) (x : UInt8) : Go.bits .xor .u32 (u c) ((x.toNat : Int) % 4294967296) = u (c ^^^ BitVec.ofNat 32 x.toNat) := by
  rw [show ((x.toNat : Int) % 4294967296) = u (BitVec.ofNat 32 x.toNat) from by unfold u; simp; have := x.toNat_lt; omega, xor_u]
/-- The sum of what has the sum s, with l behind it. -/
def more (s : BitVec 32) (l : List UInt8) : BitVec 32 := ~~~ runs (~~~ s) l
/-- A bit's step, as the program spells it. -/
theorem bit_prog (c : BitVec 32) : Go.bits .xor .u32 (u c / 2) (Go.bits .and .u32 2197175160 ((-(Go.bits .and .u32 (u c) 1)) % 4294967296)) = u (bit c) := by
  have h1 : Go.bits .and .u32 (u c) 1 = u (c &&& 1#32) := and_u c 1#32
  have h2 := and_u 0x82F63B78#32 (-(c &&& 1#32))
  rw [show u 0x82F63B78#32 = 2197175160 from rfl] at h2
  have h3 := half_u c
  rw [h1, neg_u, h2, h3, xor_u, bit]
  congr 2
  have ha : c &&& 1#32 = if c.toNat % 2 = 1 then 1#32 else 0#32 := by
    apply BitVec.eq_of_toNat_eq
    rw [BitVec.toNat_and, show (1#32).toNat = 2 ^ 1 - 1 from rfl, Nat.and_two_pow_sub_one_eq_mod]
    split <;> simp <;> omega
  rw [ha]
  split <;> rfl
/-- A bit's step, as the reference spells it. -/
theorem bit_ref1 (c : BitVec 32) (h : u c % (2 : Int) = 1) : Go.bits .xor .u32 (u c / 2) 2197175160 = u (bit c) := by
  have h3 := half_u c
  have h2 := xor_u (c >>> 1) 0x82F63B78#32
  rw [show u 0x82F63B78#32 = 2197175160 from rfl] at h2
  rw [h3, h2, bit, if_pos (by unfold u at h; omega)]
theorem bit_ref0 (c : BitVec 32) (h : ¬ u c % (2 : Int) = 1) : u c / (2 : Int) = u (bit c) := by
  have h3 := half_u c
  rw [h3, bit, if_neg (by unfold u at h; omega), BitVec.xor_zero]
/-- A bit's step, as the reference spells it where no bounds are at hand. -/
theorem tmod_u (c : BitVec 32) : Int.tmod (u c) 2 = u c % (2 : Int) := Int.tmod_eq_emod_of_nonneg (u_lo c)
theorem tdiv_u (c : BitVec 32) : (Int.tdiv (u c) 2) % (4294967296 : Int) = u c / (2 : Int) := by
  rw [Int.tdiv_eq_ediv_of_nonneg (u_lo c)]; have := u_lo c; have := u_hi c; omega
theorem bit_ref1' (c : BitVec 32) (h : Int.tmod (u c) 2 = 1) : Go.bits .xor .u32 ((Int.tdiv (u c) 2) % 4294967296) 2197175160 = u (bit c) := by
  rw [tdiv_u]; exact bit_ref1 c (by rw [tmod_u] at h; exact h)
theorem bit_ref0' (c : BitVec 32) (h : ¬ Int.tmod (u c) 2 = 1) : (Int.tdiv (u c) 2) % (4294967296 : Int) = u (bit c) := by
  rw [tdiv_u]; exact bit_ref0 c (by rw [tmod_u] at h; exact h)
/-- So many bytes 0 on. -/
def zeros (n : Nat) (c : BitVec 32) : BitVec 32 := rep eight n c

/-- The sum of what the bits of c pick. -/
def pick (g : Nat → BitVec 32) (c : BitVec 32) : Nat → BitVec 32
  | 0 => 0#32
  | k + 1 => pick g c k ^^^ (g k &&& -((c >>> k) &&& 1#32))
theorem bit_xor (a b : BitVec 32) : bit (a ^^^ b) = bit a ^^^ bit b := by
  have hx : (a ^^^ b).toNat % 2 = (a.toNat % 2 + b.toNat % 2) % 2 := by
    have h := Nat.xor_mod_two_pow (a := a.toNat) (b := b.toNat) (n := 1)
    rw [Nat.pow_one] at h
    rw [BitVec.toNat_xor, h]
    rcases Nat.mod_two_eq_zero_or_one a.toNat with h | h <;> rcases Nat.mod_two_eq_zero_or_one b.toNat with k | k <;> rw [h, k] <;> rfl
  unfold bit
  rw [BitVec.ushiftRight_xor_distrib, hx]
  rcases Nat.mod_two_eq_zero_or_one a.toNat with h | h <;> rcases Nat.mod_two_eq_zero_or_one b.toNat with k | k <;> rw [h, k] <;> simp
  · ac_rfl
  · ac_rfl
  · rw [show ∀ p x y : BitVec 32, x ^^^ p ^^^ (y ^^^ p) = x ^^^ y from fun p x y => by rw [show x ^^^ p ^^^ (y ^^^ p) = (x ^^^ y) ^^^ (p ^^^ p) from by ac_rfl, BitVec.xor_self, BitVec.xor_zero]]
theorem bit_zero : bit 0#32 = 0#32 := by decide
theorem rep_xor (f : BitVec 32 → BitVec 32) (hf : ∀ a b, f (a ^^^ b) = f a ^^^ f b) (n : Nat) (a b : BitVec 32) : rep f n (a ^^^ b) = rep f n a ^^^ rep f n b := by
  induction n with
  | zero => rfl
  | succ n ih => rw [rep, rep, rep, ih, hf]
theorem eight_xor (a b : BitVec 32) : eight (a ^^^ b) = eight a ^^^ eight b := rep_xor bit bit_xor 8 a b
theorem zeros_xor (n : Nat) (a b : BitVec 32) : zeros n (a ^^^ b) = zeros n a ^^^ zeros n b := rep_xor eight eight_xor n a b
theorem rep_add (f : BitVec 32 → BitVec 32) (n m : Nat) (c : BitVec 32) : rep f (n + m) c = rep f n (rep f m c) := by
  induction n with
  | zero => rw [Nat.zero_add]; rfl
  | succ n ih => rw [Nat.succ_add, rep, ih]; rfl
theorem zeros_add (n m : Nat) (c : BitVec 32) : zeros (n + m) c = zeros n (zeros m c) := rep_add eight n m c
/-- The lowest k bits. -/
def low (c : BitVec 32) (k : Nat) : BitVec 32 := BitVec.ofNat 32 (c.toNat % 2 ^ k)
theorem low_succ (c : BitVec 32) (k : Nat) (hk : k < 32) : low c (k + 1) = low c k ^^^ (if c.toNat / 2 ^ k % 2 = 1 then 1#32 <<< k else 0#32) := by
  apply BitVec.eq_of_getLsbD_eq
  intro i hi
  have hb : (c.toNat / 2 ^ k % 2 = 1) ↔ c.toNat.testBit k = true := by rw [Nat.testBit_eq_decide_div_mod_eq]; simp
  unfold low
  rw [BitVec.getLsbD_xor, BitVec.getLsbD_ofNat, BitVec.getLsbD_ofNat, Nat.testBit_mod_two_pow, Nat.testBit_mod_two_pow]
  by_cases h : c.toNat / 2 ^ k % 2 = 1
  · rw [if_pos h, BitVec.getLsbD_shiftLeft]
    rcases Nat.lt_trichotomy i k with h1 | h1 | h1
    · simp [hi, h1, Nat.lt_succ_of_lt h1]
    · subst h1; simp [hi, hb.mp h]
    · simp [hi, show ¬ i < k from by omega, show ¬ i < k + 1 from by omega, BitVec.getLsbD_one, show i - k ≠ 0 from by omega]
  · rw [if_neg h]
    have hf : c.toNat.testBit k = false := by
      cases e : c.toNat.testBit k
      · rfl
      · exact absurd (hb.mpr e) h
    rcases Nat.lt_trichotomy i k with h1 | h1 | h1
    · simp [hi, h1, Nat.lt_succ_of_lt h1]
    · subst h1; simp [hi, hf]
    · simp [hi, show ¬ i < k from by omega, show ¬ i < k + 1 from by omega]
theorem low_all (c : BitVec 32) : low c 32 = c := by
  unfold low; apply BitVec.eq_of_toNat_eq; have := c.isLt; simp; omega
theorem mask_bit (c : BitVec 32) (k : Nat) (x : BitVec 32) : x &&& -((c >>> k) &&& 1#32) = if c.toNat / 2 ^ k % 2 = 1 then x else 0#32 := by
  have ha : (c >>> k) &&& 1#32 = if c.toNat / 2 ^ k % 2 = 1 then 1#32 else 0#32 := by
    apply BitVec.eq_of_toNat_eq
    rw [BitVec.toNat_and, show (1#32).toNat = 2 ^ 1 - 1 from rfl, Nat.and_two_pow_sub_one_eq_mod, BitVec.toNat_ushiftRight, Nat.shiftRight_eq_div_pow]
    split <;> simp <;> omega
  rw [ha]
  split
  · rw [show -(1#32) = BitVec.allOnes 32 from rfl, BitVec.and_allOnes]
  · simp
theorem pick_low (f : BitVec 32 → BitVec 32) (hf : ∀ a b, f (a ^^^ b) = f a ^^^ f b) (c : BitVec 32) (k : Nat) (hk : k ≤ 32) : pick (fun i => f (1#32 <<< i)) c k = f (low c k) := by
  have f0 : f 0#32 = 0#32 := by
    have h := hf 0#32 0#32
    rw [BitVec.xor_self] at h
    have h' := congrArg (· ^^^ f 0#32) h
    have h'' : 0#32 = f 0#32 := by simpa [BitVec.xor_assoc] using h'
    exact h''.symm
  induction k with
  | zero =>
    have : low c 0 = 0#32 := by unfold low; simp [Nat.mod_one]
    rw [this, f0]; rfl
  | succ k ih =>
    rw [pick, ih (by omega), low_succ c k (by omega), hf, mask_bit]
    split
    · rfl
    · rw [f0]
theorem pick_all (f : BitVec 32 → BitVec 32) (hf : ∀ a b, f (a ^^^ b) = f a ^^^ f b) (c : BitVec 32) : pick (fun i => f (1#32 <<< i)) c 32 = f c := by
  rw [pick_low f hf c 32 (Nat.le_refl _), low_all]
theorem xor_eq_zero {a b : BitVec 32} (h : a ^^^ b = 0#32) : a = b := by
  have := congrArg (· ^^^ b) h
  simpa [BitVec.xor_assoc] using this
theorem bit_null {c : BitVec 32} (h : bit c = 0#32) : c = 0#32 := by
  have h31 := congrArg (fun x => x.getLsbD 31) h
  unfold bit at h h31
  by_cases k : c.toNat % 2 = 1
  · rw [if_pos k] at h31
    simp at h31
  · rw [if_neg k, BitVec.xor_zero] at h
    have := congrArg BitVec.toNat h
    rw [BitVec.toNat_ushiftRight, Nat.shiftRight_eq_div_pow] at this
    apply BitVec.eq_of_toNat_eq
    simp at this ⊢
    omega
theorem bit_inj {a b : BitVec 32} (h : bit a = bit b) : a = b := by
  apply xor_eq_zero; apply bit_null; rw [bit_xor, h, BitVec.xor_self]
theorem rep_inj (f : BitVec 32 → BitVec 32) (hf : ∀ a b, f a = f b → a = b) (n : Nat) {a b : BitVec 32} (h : rep f n a = rep f n b) : a = b := by
  induction n with
  | zero => exact h
  | succ n ih => exact ih (hf _ _ h)
theorem eight_inj {a b : BitVec 32} (h : eight a = eight b) : a = b := rep_inj bit (fun _ _ => bit_inj) 8 h
theorem zeros_inj (n : Nat) {a b : BitVec 32} (h : zeros n a = zeros n b) : a = b := rep_inj eight (fun _ _ => eight_inj) n h
theorem shr_u' (a : BitVec 32) (n : Nat) : u a / ((2 : Int) ^ n) = u (a >>> n) := by
  unfold u; rw [BitVec.toNat_ushiftRight, Nat.shiftRight_eq_div_pow, Int.natCast_ediv, Int.natCast_pow]; rfl
/-- A round of the pick, as the program spells it. -/
theorem pick_prog (p g c : BitVec 32) (k : Nat) : Go.bits .xor .u32 (u p) (Go.bits .and .u32 (u g) ((-(Go.bits .and .u32 (u c / ((2 : Int) ^ k)) 1)) % 4294967296)) = u (p ^^^ (g &&& -((c >>> k) &&& 1#32))) := by
  have h1 : Go.bits .and .u32 (u (c >>> k)) 1 = u ((c >>> k) &&& 1#32) := and_u _ 1#32
  rw [shr_u', h1, neg_u, and_u, xor_u]
theorem shl_one (k : Nat) : IntKind.u32.wrap ((2 : Int) ^ k) = u (1#32 <<< k) := by
  rw [IntKind.wrap_u32]; unfold u
  rw [BitVec.toNat_shiftLeft, Nat.shiftLeft_eq, show (1#32).toNat = 1 from rfl, Nat.one_mul, Int.natCast_emod, Int.natCast_pow]; rfl
theorem odd_prog (j : Nat) : Go.bits .and .u32 (j : Int) 1 = ((j % 2 : Nat) : Int) := by
  have h : Go.bits .and .u32 (j : Int) 1 = IntKind.u32.wrap (((BitVec.ofInt 32 (j : Int) &&& BitVec.ofInt 32 1).toNat : Nat) : Int) := rfl
  rw [h, BitVec.ofInt_natCast, show BitVec.ofInt 32 1 = 1#32 from rfl, wrap_u]
  unfold u
  rw [BitVec.toNat_and, show (1#32).toNat = 2 ^ 1 - 1 from rfl, Nat.and_two_pow_sub_one_eq_mod, BitVec.toNat_ofNat]
  omega
theorem zeros_odd (m j : Nat) (d : BitVec 32) (h : j % 2 = 1) : zeros ((m + m) * (j / 2)) (zeros m d) = zeros (m * j) d := by
  rw [← zeros_add]
  congr 1
  have h5 : j = j / 2 + j / 2 + 1 := by omega
  conv => rhs; rw [h5]
  rw [Nat.add_mul, Nat.mul_add, Nat.mul_add, Nat.mul_one]
theorem zeros_even (m j : Nat) (d : BitVec 32) (h : j % 2 = 0) : zeros ((m + m) * (j / 2)) d = zeros (m * j) d := by
  congr 1
  have h5 : j = j / 2 + j / 2 := by omega
  conv => rhs; rw [h5]
  rw [Nat.add_mul, Nat.mul_add]
theorem byte_u (x : UInt8) : ((x.toNat : Int) % 4294967296) = u (BitVec.ofNat 32 x.toNat) := by
  unfold u; simp; have := x.toNat_lt; omega
theorem runs_append (c : BitVec 32) (a b : List UInt8) : runs c (a ++ b) = runs (runs c a) b := List.foldl_append
theorem more_more (s : BitVec 32) (a b : List UInt8) : more (more s a) b = more s (a ++ b) := by
  unfold more; rw [runs_append, BitVec.not_not]
theorem more_nil (s : BitVec 32) : more s [] = s := by
  unfold more; rw [show runs (~~~s) [] = ~~~s from rfl, BitVec.not_not]
theorem u_nat {n : Nat} (h : n < 4294967296) : ∃ c : BitVec 32, (n : Int) = u c := ⟨BitVec.ofNat 32 n, by unfold u; simp; omega⟩

/-! What a turned byte, and what stands ahead, turns of a sum. -/
theorem zeros_succ' (n : Nat) (c : BitVec 32) : zeros (n + 1) c = zeros n (eight c) := by
  rw [zeros_add]; rfl
theorem runs_xor (q : List UInt8) (c e : BitVec 32) : runs (c ^^^ e) q = runs c q ^^^ zeros q.length e := by
  induction q generalizing c e with
  | nil => rfl
  | cons x q ih =>
    show runs (byte (c ^^^ e) x) q = runs (byte c x) q ^^^ zeros (q.length + 1) e
    have h : byte (c ^^^ e) x = byte c x ^^^ eight e := by
      unfold byte
      rw [show c ^^^ e ^^^ BitVec.ofNat 32 x.toNat = (c ^^^ BitVec.ofNat 32 x.toNat) ^^^ e from by ac_rfl, eight_xor]
    rw [h, ih, zeros_succ']
theorem byte_xor (d : BitVec 32) (z x : UInt8) : byte d (z ^^^ x) = byte d z ^^^ eight (BitVec.ofNat 32 x.toNat) := by
  unfold byte
  have h : BitVec.ofNat 32 (z ^^^ x).toNat = BitVec.ofNat 32 z.toNat ^^^ BitVec.ofNat 32 x.toNat := by
    rw [UInt8.toNat_xor, BitVec.ofNat_xor]
  rw [h, ← BitVec.xor_assoc, eight_xor]
theorem not_xor (a b : BitVec 32) : ~~~(a ^^^ b) = ~~~a ^^^ b := by
  rw [← BitVec.allOnes_xor, ← BitVec.allOnes_xor, BitVec.xor_assoc]
theorem more_set (s : BitVec 32) (l : List UInt8) (k : Nat) (hk : k < l.length) (x : UInt8) : more s (l.set k (l[k] ^^^ x)) = more s l ^^^ zeros (l.length - 1 - k) (eight (BitVec.ofNat 32 x.toNat)) := by
  have hl : l = l.take k ++ l[k] :: l.drop (k + 1) := by rw [← List.drop_eq_getElem_cons hk, List.take_append_drop]
  have hs : l.set k (l[k] ^^^ x) = l.take k ++ (l[k] ^^^ x) :: l.drop (k + 1) := by rw [List.set_eq_take_append_cons_drop, if_pos hk]
  have hd : (l.drop (k + 1)).length = l.length - 1 - k := by rw [List.length_drop]; omega
  have h2 : ∀ (p q : List UInt8) (y : UInt8), more s (p ++ y :: q) = ~~~ runs (byte (runs (~~~s) p) y) q := fun p q y => by unfold more; rw [runs_append]; rfl
  rw [hs, h2, byte_xor, runs_xor, hd, not_xor, ← h2, ← hl]
theorem turn_ne (j : Nat) (x : UInt8) (hx : x ≠ 0) : zeros j (eight (BitVec.ofNat 32 x.toNat)) ≠ 0#32 := by
  intro h
  have h0 : ∀ n, zeros n 0#32 = 0#32 := fun n => by
    have := zeros_xor n 0#32 0#32
    rw [BitVec.xor_self, BitVec.xor_self] at this
    exact this
  have e0 : eight 0#32 = 0#32 := by decide
  have h1 := eight_inj ((zeros_inj j (h.trans (h0 j).symm)).trans e0.symm)
  apply hx
  apply UInt8.toNat_inj.1
  have := congrArg BitVec.toNat h1
  have hlt := x.toNat_lt
  simp at this
  simp
  omega
theorem more_ne (s : BitVec 32) (l : List UInt8) (k : Nat) (hk : k < l.length) (x : UInt8) (hx : x ≠ 0) : more s l ≠ more s (l.set k (l[k] ^^^ x)) := by
  intro h
  rw [more_set s l k hk x] at h
  apply turn_ne (l.length - 1 - k) x hx
  have h' := congrArg (more s l ^^^ ·) h
  simp only [BitVec.xor_self, ← BitVec.xor_assoc, BitVec.zero_xor] at h'
  exact h'.symm
theorem xor_u8 (a b : UInt8) : Go.bits .xor .u8 (a.toNat : Int) (b.toNat : Int) = ((a ^^^ b).toNat : Int) := by
  have h : Go.bits .xor .u8 (a.toNat : Int) (b.toNat : Int) = IntKind.u8.wrap (((BitVec.ofInt 8 (a.toNat : Int) ^^^ BitVec.ofInt 8 (b.toNat : Int)).toNat : Nat) : Int) := rfl
  rw [h, IntKind.wrap_u8, BitVec.ofInt_natCast, BitVec.ofInt_natCast, ← BitVec.ofNat_xor, BitVec.toNat_ofNat, UInt8.toNat_xor]
  have := (a ^^^ b).toNat_lt
  rw [UInt8.toNat_xor] at this
  omega
theorem wrap_u64 (n : Int) : IntKind.u64.wrap n = n % 18446744073709551616 := by simp [IntKind.wrap, IntKind.bits, IntKind.signed]
theorem far_sum (n m : Nat) (hn : n < 4294967296) (hm : m < 4294967296) : IntKind.u64.wrap (IntKind.u64.wrap (n : Int) + IntKind.u64.wrap (m : Int)) = ((n + m : Nat) : Int) := by
  rw [wrap_u64, wrap_u64, wrap_u64]; omega
theorem wrap_u32_nat (n : Nat) (hn : n < 4294967296) : IntKind.u32.wrap (n : Int) = (n : Int) := by
  rw [IntKind.wrap_u32]; omega
theorem mod_u32_nat (n : Nat) (hn : n < 4294967296) : (n : Int) % 4294967296 = (n : Int) := by omega
theorem not_not_xor (a b : BitVec 32) : ~~~a ^^^ ~~~b = a ^^^ b := by
  rw [← BitVec.allOnes_xor (x := a), ← BitVec.allOnes_xor (x := b)]
  rw [show BitVec.allOnes 32 ^^^ a ^^^ (BitVec.allOnes 32 ^^^ b) = (BitVec.allOnes 32 ^^^ BitVec.allOnes 32) ^^^ (a ^^^ b) from by ac_rfl, BitVec.xor_self, BitVec.zero_xor]
/-- The sum of two texts out of theirs. -/
theorem join_more (l l' : List UInt8) : zeros l'.length (more 0#32 l) ^^^ more 0#32 l' = more 0#32 (l ++ l') := by
  have h1 : more 0#32 (l ++ l') = more (more 0#32 l) l' := (more_more _ _ _).symm
  rw [h1]
  have h2 : more (more 0#32 l) l' = ~~~ runs (~~~ 0#32 ^^^ more 0#32 l) l' := by
    unfold more
    rw [BitVec.not_not]
    congr 2
    rw [← BitVec.allOnes_xor (x := runs _ _)]
    have : ~~~ 0#32 = BitVec.allOnes 32 := by decide
    rw [this, ← BitVec.xor_assoc, BitVec.xor_self, BitVec.zero_xor]
  rw [h2, runs_xor, not_xor]
  show _ ^^^ more 0#32 l' = more 0#32 l' ^^^ _
  rw [BitVec.xor_comm]
theorem runs_zeros (c : BitVec 32) (k : Nat) : runs c (List.replicate k 0) = zeros k c := by
  induction k generalizing c with
  | zero => rfl
  | succ k ih =>
    rw [List.replicate_succ]
    show runs (byte c 0) (List.replicate k 0) = _
    have h0 : byte c 0 = eight c := by unfold byte; rw [show BitVec.ofNat 32 (0 : UInt8).toNat = 0#32 from rfl, BitVec.xor_zero]
    rw [ih, zeros_succ', h0]
/-- Zeros behind a text. -/
theorem zeros_more (l : List UInt8) (k : Nat) : ~~~ zeros k (~~~ more 0#32 l) = more 0#32 (l ++ List.replicate k 0) := by
  unfold more; rw [BitVec.not_not, runs_append, runs_zeros]
end Go.Proofs.Ytocbogagfdbcmaa.Crc
