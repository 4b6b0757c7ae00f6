/- The walk of the count of bits. -/
import Derived.Test.YtbkhfkefkojdbaaDoorBitFolds
import Derived.Test.YtbkhfkefkojdbaaDoorCountPlain
namespace Go.Proofs.YtbkhfkefkojdbaaDoor.Bit
set_option linter.unusedVariables false
set_option linter.unusedSimpArgs false
open Go.RowKit
open Go.Proofs.YtbkhfkefkojdbaaDoor.Num

theorem and_mask (x m : Nat) (hx : x < 18446744073709551616) (hm : m < 18446744073709551616) (p : Nat) (hp : p = x &&& m) : Go.bits .and .u64 (x : Int) (m : Int) = (p : Int) := by rw [hp]; exact bits_and_u64_nat x m hx hm
theorem and_i64 (a : Nat) (ha : a < 9223372036854775808) (r : Nat) (hr : r = a &&& 127) : Go.bits .and .i64 (a : Int) 127 = (r : Int) := by
  have h1 : (BitVec.ofInt 64 (a : Int)).toNat = a := by
    rw [BitVec.ofInt_natCast, BitVec.toNat_ofNat]; exact Nat.mod_eq_of_lt (by omega)
  have h2 : (BitVec.ofInt 64 127).toNat = 127 := by decide
  show IntKind.i64.wrap ((BitVec.ofInt 64 (a : Int) &&& BitVec.ofInt 64 127).toNat : Int) = _
  have hle : r ≤ 127 := by rw [hr]; exact Nat.and_le_right
  rw [BitVec.toNat_and, h1, h2, ← hr, IntKind.wrap_i64]
  omega
set_option maxRecDepth 100000 in
theorem ones_calls (x : Nat) (hx : x < 18446744073709551616) (w : World) :
    Calls Tryd.prog 36 #[.int .u64 (x : Int)] w fun e w' => e = .returned (.int .i64 ((elems x).length : Int)) ∧ w = w' := by
  have hpop := pop_count x hx
  obtain ⟨h, eh⟩ : ∃ h, h = x / 2 := ⟨_, rfl⟩
  have d1 : (x : Int) / 2 = (h : Int) := by omega
  obtain ⟨p1, hp1⟩ : ∃ p, p = h &&& 6148914691236517205 := ⟨_, rfl⟩
  obtain ⟨p2, hp2⟩ : ∃ p, p = x &&& 6148914691236517205 := ⟨_, rfl⟩
  have a1 : Go.bits .and .u64 (h : Int) 6148914691236517205 = (p1 : Int) := and_mask h 6148914691236517205 (by omega) (by omega) p1 hp1
  have a2 : Go.bits .and .u64 (x : Int) 6148914691236517205 = (p2 : Int) := and_mask x 6148914691236517205 hx (by omega) p2 hp2
  have l1 : p1 ≤ 6148914691236517205 := by rw [hp1]; exact Nat.and_le_right
  have l2 : p2 ≤ 6148914691236517205 := by rw [hp2]; exact Nat.and_le_right
  obtain ⟨y, hy⟩ : ∃ y, y = p1 + p2 := ⟨_, rfl⟩
  have s1 : IntKind.u64.wrap ((p1 : Int) + (p2 : Int)) = (y : Int) := by rw [Bit.wrap_u64]; omega
  obtain ⟨g, eg⟩ : ∃ h, h = y / 4 := ⟨_, rfl⟩
  have d2 : (y : Int) / 4 = (g : Int) := by omega
  obtain ⟨p3, hp3⟩ : ∃ p, p = g &&& 3689348814741910323 := ⟨_, rfl⟩
  obtain ⟨p4, hp4⟩ : ∃ p, p = y &&& 3689348814741910323 := ⟨_, rfl⟩
  have a3 : Go.bits .and .u64 (g : Int) 3689348814741910323 = (p3 : Int) := and_mask g 3689348814741910323 (by omega) (by omega) p3 hp3
  have a4 : Go.bits .and .u64 (y : Int) 3689348814741910323 = (p4 : Int) := and_mask y 3689348814741910323 (by omega) (by omega) p4 hp4
  have l3 : p3 ≤ 3689348814741910323 := by rw [hp3]; exact Nat.and_le_right
  have l4 : p4 ≤ 3689348814741910323 := by rw [hp4]; exact Nat.and_le_right
  obtain ⟨z, hz⟩ : ∃ y, y = p3 + p4 := ⟨_, rfl⟩
  have s2 : IntKind.u64.wrap ((p3 : Int) + (p4 : Int)) = (z : Int) := by rw [Bit.wrap_u64]; omega
  obtain ⟨f, ef⟩ : ∃ h, h = z / 16 := ⟨_, rfl⟩
  have d3 : (z : Int) / 16 = (f : Int) := by omega
  obtain ⟨u, hu⟩ : ∃ y, y = f + z := ⟨_, rfl⟩
  have s3 : IntKind.u64.wrap ((f : Int) + (z : Int)) = (u : Int) := by rw [Bit.wrap_u64]; omega
  obtain ⟨v, hv⟩ : ∃ p, p = u &&& 1085102592571150095 := ⟨_, rfl⟩
  have a5 : Go.bits .and .u64 (u : Int) 1085102592571150095 = (v : Int) := and_mask u 1085102592571150095 (by omega) (by omega) v hv
  have l5 : v ≤ 1085102592571150095 := by rw [hv]; exact Nat.and_le_right
  obtain ⟨v1, hv1⟩ : ∃ y, y = v + v / 256 := ⟨_, rfl⟩
  have s4 : IntKind.u64.wrap ((v : Int) + (v : Int) / 256) = (v1 : Int) := by rw [Bit.wrap_u64]; omega
  obtain ⟨v2, hv2⟩ : ∃ y, y = v1 + v1 / 65536 := ⟨_, rfl⟩
  have s5 : IntKind.u64.wrap ((v1 : Int) + (v1 : Int) / 65536) = (v2 : Int) := by rw [Bit.wrap_u64]; omega
  obtain ⟨v3, hv3⟩ : ∃ y, y = v2 + v2 / 4294967296 := ⟨_, rfl⟩
  have s6 : IntKind.u64.wrap ((v2 : Int) + (v2 : Int) / 4294967296) = (v3 : Int) := by rw [Bit.wrap_u64]; omega
  obtain ⟨r, hr⟩ : ∃ y, y = v3 % 128 := ⟨_, rfl⟩
  have hr2 : r = v3 &&& 127 := by rw [hr]; exact (Nat.and_two_pow_sub_one_eq_mod v3 7).symm
  have b63 : v3 < 9223372036854775808 := by omega
  have a6 := and_i64 v3 b63 r hr2
  have w0 : wrap64 (v3 : Int) = (v3 : Int) := by unfold wrap64; omega
  have hres : (elems x).length = r := by
    rw [← hpop, hr, hv3, hv2, hv1, hv, hu, ef, hz, hp3, hp4, eg, hy, hp1, hp2, eh]
    rfl
  rw [hres]
  clear hpop eh hp1 hp2 l1 l2 hy eg hp3 hp4 l3 l4 hz ef hu hv l5 hv1 hv2 hv3 hr hr2 hres hx b63
  go_enter Tryd.func36, Tryd.ntmps36
  go_wp2_with fail
  go_ret
  exact ⟨rfl, rfl⟩
end Go.Proofs.YtbkhfkefkojdbaaDoor.Bit
