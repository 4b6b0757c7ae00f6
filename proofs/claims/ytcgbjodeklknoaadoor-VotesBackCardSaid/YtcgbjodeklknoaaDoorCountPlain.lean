/- Plain facts on how many bits a number has. No program is in sight. -/
import Derived.Test.YtcgbjodeklknoaaDoorSetPlain
namespace Go.Proofs.YtcgbjodeklknoaaDoor.Bit
set_option linter.unusedVariables false
set_option linter.unusedSimpArgs false

/-- Bytes as a number, the lowest first. -/
def val : List Nat → Nat
  | [] => 0
  | b :: l => b + 256 * val l
/-- The lowest n bytes of a number. -/
def bytesN : Nat → Nat → List Nat
  | 0, _ => []
  | n + 1, x => x % 256 :: bytesN n (x / 256)
theorem val_bytesN (n x : Nat) (h : x < 256 ^ n) : val (bytesN n x) = x := by
  induction n generalizing x with
  | zero => rw [Nat.pow_zero] at h; simp [bytesN, val]; omega
  | succ n ih =>
    rw [bytesN, val, ih (x / 256) (Nat.div_lt_of_lt_mul (by rw [Nat.pow_succ] at h; omega))]
    omega
theorem bytesN_lt (n x : Nat) : ∀ b ∈ bytesN n x, b < 256 := by
  induction n generalizing x with
  | zero => simp [bytesN]
  | succ n ih =>
    intro b hb
    rw [bytesN, List.mem_cons] at hb
    rcases hb with rfl | hb
    · omega
    · exact ih _ b hb
theorem length_bytesN (n x : Nat) : (bytesN n x).length = n := by
  induction n generalizing x with
  | zero => rfl
  | succ n ih => rw [bytesN, List.length_cons, ih]
theorem eight_of {l : List Nat} (h : l.length = 8) : ∃ b0 b1 b2 b3 b4 b5 b6 b7, l = [b0, b1, b2, b3, b4, b5, b6, b7] := by
  match l, h with
  | [b0, b1, b2, b3, b4, b5, b6, b7], _ => exact ⟨_, _, _, _, _, _, _, _, rfl⟩
/-- AND, byte by byte. -/
theorem and_cons (a c b d : Nat) (ha : a < 256) (hc : c < 256) : (a + 256 * b) &&& (c + 256 * d) = (a &&& c) + 256 * (b &&& d) := by
  have hac : a &&& c < 2 ^ 8 := Nat.and_lt_two_pow _ hc
  apply Nat.eq_of_testBit_eq
  intro i
  rw [Nat.testBit_and, Nat.add_comm a, Nat.add_comm c, Nat.add_comm (a &&& c), show (256 : Nat) = 2 ^ 8 from rfl, Nat.testBit_two_pow_mul_add _ ha, Nat.testBit_two_pow_mul_add _ hc, Nat.testBit_two_pow_mul_add _ hac]
  by_cases hi : i < 8
  · rw [if_pos hi, if_pos hi, if_pos hi, Nat.testBit_and]
  · rw [if_neg hi, if_neg hi, if_neg hi, Nat.testBit_and]
/-- A mask: the byte c, n times. -/
def mask (c : Nat) : Nat → Nat
  | 0 => 0
  | n + 1 => c + 256 * mask c n
def s1 (b : Nat) : Nat := ((b / 2) &&& 0x55) + (b &&& 0x55)
def s2 (b : Nat) : Nat := ((b / 4) &&& 0x33) + (b &&& 0x33)
def s3 (b : Nat) : Nat := (b / 16 + b) &&& 0x0f
theorem step1 (l : List Nat) (hl : ∀ b ∈ l, b < 256) : ((val l / 2) &&& mask 0x55 l.length) + (val l &&& mask 0x55 l.length) = val (l.map s1) := by
  have key : ∀ (b : Fin 256) (r : Fin 2), (b.val / 2 + 128 * r.val) &&& 0x55 = (b.val / 2) &&& 0x55 := by decide +kernel
  induction l with
  | nil => rfl
  | cons b l ih =>
    have hb := hl b List.mem_cons_self
    have ih := ih (fun x hx => hl x (List.mem_cons_of_mem _ hx))
    have e : val (b :: l) / 2 = (b / 2 + 128 * (val l % 2)) + 256 * (val l / 2) := by rw [val]; omega
    rw [e, List.length_cons, mask, and_cons _ _ _ _ (by omega) (by omega), key ⟨b, hb⟩ ⟨val l % 2, by omega⟩, val, and_cons _ _ _ _ hb (by omega), List.map_cons, val, ← ih]
    unfold s1
    show ((b / 2) &&& 85) + 256 * (val l / 2 &&& mask 85 l.length) + ((b &&& 85) + 256 * (val l &&& mask 85 l.length)) = ((b / 2) &&& 85) + (b &&& 85) + 256 * (((val l / 2) &&& mask 85 l.length) + (val l &&& mask 85 l.length))
    rw [Nat.mul_add]
    omega
theorem step2 (l : List Nat) (hl : ∀ b ∈ l, b < 256) : ((val l / 4) &&& mask 0x33 l.length) + (val l &&& mask 0x33 l.length) = val (l.map s2) := by
  have key : ∀ (b : Fin 256) (r : Fin 4), (b.val / 4 + 64 * r.val) &&& 0x33 = (b.val / 4) &&& 0x33 := by decide +kernel
  induction l with
  | nil => rfl
  | cons b l ih =>
    have hb := hl b List.mem_cons_self
    have ih := ih (fun x hx => hl x (List.mem_cons_of_mem _ hx))
    have e : val (b :: l) / 4 = (b / 4 + 64 * (val l % 4)) + 256 * (val l / 4) := by rw [val]; omega
    rw [e, List.length_cons, mask, and_cons _ _ _ _ (by omega) (by omega), key ⟨b, hb⟩ ⟨val l % 4, by omega⟩, val, and_cons _ _ _ _ hb (by omega), List.map_cons, val, ← ih]
    unfold s2
    show ((b / 4) &&& 51) + 256 * (val l / 4 &&& mask 51 l.length) + ((b &&& 51) + 256 * (val l &&& mask 51 l.length)) = ((b / 4) &&& 51) + (b &&& 51) + 256 * (((val l / 4) &&& mask 51 l.length) + (val l &&& mask 51 l.length))
    rw [Nat.mul_add]
    omega
theorem low4 (l : List Nat) (hl : ∀ b ∈ l, b < 256 ∧ b / 16 ≤ 4 ∧ b % 16 ≤ 4) : val l % 16 ≤ 4 := by
  cases l with
  | nil => simp [val]
  | cons b l =>
    have := hl b List.mem_cons_self
    rw [val]
    omega
theorem step3 (l : List Nat) (hl : ∀ b ∈ l, b < 256 ∧ b / 16 ≤ 4 ∧ b % 16 ≤ 4) : (val l / 16 + val l) &&& mask 0x0f l.length = val (l.map s3) := by
  have key : ∀ (c : Fin 256) (r : Fin 16), (c.val + 16 * r.val) &&& 0x0f = c.val &&& 0x0f := by decide +kernel
  induction l with
  | nil => rfl
  | cons b l ih =>
    obtain ⟨hb, hb1, hb2⟩ := hl b List.mem_cons_self
    have hl' := fun x hx => hl x (List.mem_cons_of_mem b hx)
    have ih := ih hl'
    have h4 := low4 l hl'
    have e : val (b :: l) / 16 + val (b :: l) = (b / 16 + b + 16 * (val l % 16)) + 256 * (val l / 16 + val l) := by rw [val]; omega
    rw [e, List.length_cons, mask, and_cons _ _ _ _ (by omega) (by omega), key ⟨b / 16 + b, by omega⟩ ⟨val l % 16, by omega⟩, List.map_cons, val, ← ih]
    rfl
/-- How many bits a byte has. -/
def pcb (b : Nat) : Nat := s3 (s2 (s1 b))
theorem pcb_le (b : Nat) (hb : b < 256) : s1 b < 256 ∧ (s2 (s1 b) < 256 ∧ s2 (s1 b) / 16 ≤ 4 ∧ s2 (s1 b) % 16 ≤ 4) ∧ pcb b ≤ 8 ∧ pcb b = ((List.range 8).filter b.testBit).length := by
  have key : ∀ b : Fin 256, s1 b.val < 256 ∧ (s2 (s1 b.val) < 256 ∧ s2 (s1 b.val) / 16 ≤ 4 ∧ s2 (s1 b.val) % 16 ≤ 4) ∧ pcb b.val ≤ 8 ∧ pcb b.val = ((List.range 8).filter b.val.testBit).length := by decide +kernel
  exact key ⟨b, hb⟩
/-- The bits of bytes. -/
theorem count_val (l : List Nat) (hl : ∀ b ∈ l, b < 256) : ((List.range (8 * l.length)).filter (val l).testBit).length = (l.map pcb).sum := by
  induction l with
  | nil => rfl
  | cons b l ih =>
    have hb := hl b List.mem_cons_self
    have ih := ih (fun x hx => hl x (List.mem_cons_of_mem _ hx))
    rw [List.length_cons, Nat.mul_succ, Nat.add_comm (8 * l.length) 8, List.range_add, List.filter_append, List.length_append, List.map_cons, List.sum_cons, ← ih, (pcb_le b hb).2.2.2]
    have e : val (b :: l) = 2 ^ 8 * val l + b := by rw [val]; omega
    congr 1
    · congr 1
      apply List.filter_congr
      intro i hi
      rw [List.mem_range] at hi
      rw [e, Nat.testBit_two_pow_mul_add _ hb, if_pos hi]
    · rw [List.filter_map, List.length_map]
      congr 1
      apply List.filter_congr
      intro i _
      show (val (b :: l)).testBit (8 + i) = _
      rw [e, Nat.testBit_two_pow_mul_add _ hb, if_neg (by omega)]
      congr 1
      omega
/-- The number of bits by additions, as Go's library reckons it: the first half, the last. -/
def pop3 (x : Nat) : Nat :=
  let x1 := ((x / 2) &&& 6148914691236517205) + (x &&& 6148914691236517205)
  let x2 := ((x1 / 4) &&& 3689348814741910323) + (x1 &&& 3689348814741910323)
  (x2 / 16 + x2) &&& 1085102592571150095
def popE (x3 : Nat) : Nat :=
  let x4 := x3 + x3 / 256
  let x5 := x4 + x4 / 65536
  let x6 := x5 + x5 / 4294967296
  x6 % 128
theorem mask1 : mask 0x55 8 = 6148914691236517205 := by decide +kernel
theorem mask2 : mask 0x33 8 = 3689348814741910323 := by decide +kernel
theorem mask3 : mask 0x0f 8 = 1085102592571150095 := by decide +kernel
theorem pop3_val (l : List Nat) (h8 : l.length = 8) (hl : ∀ b ∈ l, b < 256) : pop3 (val l) = val (l.map pcb) := by
  have q1 := step1 _ hl
  have hl1 : ∀ b ∈ l.map s1, b < 256 := by
    intro b h
    obtain ⟨c, hc1, rfl⟩ := List.mem_map.1 h
    exact (pcb_le c (hl c hc1)).1
  have q2 := step2 _ hl1
  have hl2 : ∀ b ∈ (l.map s1).map s2, b < 256 ∧ b / 16 ≤ 4 ∧ b % 16 ≤ 4 := by
    intro b h
    obtain ⟨c, hc1, rfl⟩ := List.mem_map.1 h
    obtain ⟨d, hd1, rfl⟩ := List.mem_map.1 hc1
    exact (pcb_le d (hl d hd1)).2.1
  have q3 := step3 _ hl2
  rw [List.length_map, h8, mask2] at q2
  rw [List.length_map, List.length_map, h8, mask3] at q3
  rw [h8, mask1] at q1
  unfold pop3
  simp only
  rw [q1, q2, q3, List.map_map, List.map_map]
  rfl
theorem sumA (a0 a1 a2 a3 a4 a5 a6 a7 y : Nat) (k0 : a0 ≤ 8) (k1 : a1 ≤ 8) (k2 : a2 ≤ 8) (k3 : a3 ≤ 8) (k4 : a4 ≤ 8) (k5 : a5 ≤ 8) (k6 : a6 ≤ 8) (k7 : a7 ≤ 8)
    (hy : y = a0 + 256 * (a1 + 256 * (a2 + 256 * (a3 + 256 * (a4 + 256 * (a5 + 256 * (a6 + 256 * (a7 + 256 * 0)))))))) :
    y + y / 256 = (a0 + a1) + 256 * ((a1 + a2) + 256 * ((a2 + a3) + 256 * ((a3 + a4) + 256 * ((a4 + a5) + 256 * ((a5 + a6) + 256 * ((a6 + a7) + 256 * a7)))))) := by omega
theorem sumB (c0 c1 c2 c3 c4 c5 c6 c7 y : Nat) (k0 : c0 ≤ 16) (k1 : c1 ≤ 16) (k2 : c2 ≤ 16) (k3 : c3 ≤ 16) (k4 : c4 ≤ 16) (k5 : c5 ≤ 16) (k6 : c6 ≤ 16) (k7 : c7 ≤ 16)
    (hy : y = c0 + 256 * (c1 + 256 * (c2 + 256 * (c3 + 256 * (c4 + 256 * (c5 + 256 * (c6 + 256 * c7))))))) :
    y + y / 65536 = (c0 + c2) + 256 * ((c1 + c3) + 256 * ((c2 + c4) + 256 * ((c3 + c5) + 256 * ((c4 + c6) + 256 * ((c5 + c7) + 256 * (c6 + 256 * c7)))))) := by omega
theorem sumC (c0 c1 c2 c3 c4 c5 c6 c7 y : Nat) (k0 : c0 ≤ 32) (k1 : c1 ≤ 32) (k2 : c2 ≤ 32) (k3 : c3 ≤ 32) (k4 : c4 ≤ 32) (k5 : c5 ≤ 32) (k6 : c6 ≤ 32) (k7 : c7 ≤ 32)
    (hy : y = c0 + 256 * (c1 + 256 * (c2 + 256 * (c3 + 256 * (c4 + 256 * (c5 + 256 * (c6 + 256 * c7))))))) :
    (y + y / 4294967296) % 128 = c0 + c4 := by
  have e : y / 4294967296 = c4 + 256 * (c5 + 256 * (c6 + 256 * c7)) := by
    have hlow : c0 + 256 * (c1 + 256 * (c2 + 256 * c3)) < 4294967296 := by omega
    have h2 : y = (c0 + 256 * (c1 + 256 * (c2 + 256 * c3))) + 4294967296 * (c4 + 256 * (c5 + 256 * (c6 + 256 * c7))) := by omega
    rw [h2, Nat.add_mul_div_left _ _ (by decide), Nat.div_eq_of_lt hlow, Nat.zero_add]
  rw [e, hy]
  generalize c1 + 256 * (c2 + 256 * (c3 + 256 * (c4 + 256 * (c5 + 256 * (c6 + 256 * c7))))) = p
  generalize c5 + 256 * (c6 + 256 * c7) = q
  omega
theorem popE_val (a0 a1 a2 a3 a4 a5 a6 a7 y : Nat) (k0 : a0 ≤ 8) (k1 : a1 ≤ 8) (k2 : a2 ≤ 8) (k3 : a3 ≤ 8) (k4 : a4 ≤ 8) (k5 : a5 ≤ 8) (k6 : a6 ≤ 8) (k7 : a7 ≤ 8)
    (hy : y = a0 + 256 * (a1 + 256 * (a2 + 256 * (a3 + 256 * (a4 + 256 * (a5 + 256 * (a6 + 256 * (a7 + 256 * 0)))))))) :
    popE y = a0 + (a1 + (a2 + (a3 + (a4 + (a5 + (a6 + (a7 + 0))))))) := by
  have h1 := sumA a0 a1 a2 a3 a4 a5 a6 a7 y k0 k1 k2 k3 k4 k5 k6 k7 hy
  have h2 := sumB _ _ _ _ _ _ _ _ _ (by omega) (by omega) (by omega) (by omega) (by omega) (by omega) (by omega) (by omega) h1
  have h3 := sumC _ _ _ _ _ _ _ _ _ (by omega) (by omega) (by omega) (by omega) (by omega) (by omega) (by omega) (by omega) h2
  have e : popE y = (y + y / 256 + (y + y / 256) / 65536 + (y + y / 256 + (y + y / 256) / 65536) / 4294967296) % 128 := rfl
  rw [e, h3]
  clear h1 h2 h3 e hy
  omega
theorem pop_count (x : Nat) (hx : x < 18446744073709551616) : popE (pop3 x) = (elems x).length := by
  have hv := val_bytesN 8 x hx
  have hl := bytesN_lt 8 x
  have h8 := length_bytesN 8 x
  obtain ⟨l, hb⟩ : ∃ l, l = bytesN 8 x := ⟨_, rfl⟩
  rw [← hb] at hv hl h8
  have hc := count_val l hl
  rw [h8, hv] at hc
  have h3 := pop3_val l h8 hl
  rw [hv] at h3
  unfold elems
  rw [h3]
  refine Eq.trans ?_ hc.symm
  clear hb hc h3 hv
  obtain ⟨b0, b1, b2, b3, b4, b5, b6, b7, rfl⟩ := eight_of h8
  have kk := fun b hb => (pcb_le b (hl b hb)).2.2.1
  exact popE_val _ _ _ _ _ _ _ _ _ (kk b0 (by simp)) (kk b1 (by simp)) (kk b2 (by simp)) (kk b3 (by simp)) (kk b4 (by simp)) (kk b5 (by simp)) (kk b6 (by simp)) (kk b7 (by simp)) rfl
end Go.Proofs.YtcgbjodeklknoaaDoor.Bit
