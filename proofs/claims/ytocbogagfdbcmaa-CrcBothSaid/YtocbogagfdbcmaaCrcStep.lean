/- The walks of a byte's step: of the program's and of the reference's. -/
import Derived.Test.YtocbogagfdbcmaaProg
import Derived.Test.YtocbogagfdbcmaaCrcPlain
import Derived.Test.YtocbogagfdbcmaaMem
import Derived.WalkKit
import Derived.Lib.Hide
namespace Go.Proofs.Ytocbogagfdbcmaa.Crc
set_option linter.unusedVariables false
set_option linter.unusedSimpArgs false
open Go.RowKit

/-- The value of a bit vector. -/
def v32 (c : BitVec 32) : Value := .int .u32 (u c)

set_option maxRecDepth 100000 in
theorem step_calls (c : BitVec 32) (w : World) :
    Calls Try.prog 20 #[.int .u32 (u c)] w fun e w' => e = .returned (.int .u32 (u (eight c))) ∧ w = w' := by
  go_enter Try.func20, Try.ntmps20
  go_wp2
  go_loop [0, 4] (fun x i => ∃ k : Nat, k ≤ 8 ∧ i = .int .i64 k ∧ x = .int .u32 (u (rep bit k c))) (fun _ i => 8 - (intOf i).toNat)
  case atStart => exact ⟨0, by omega, rfl, rfl⟩
  case round =>
    obtain ⟨k, hk, rfl, rfl⟩ := hrel
    by_cases hlt : k < 8
    · go_wp2
      go_round
      case rel => exact ⟨k + 1, by omega, by go_num, by rw [bit_prog]; rfl⟩
      case measure => simp [intOf]; omega
    · obtain rfl : k = 8 := by omega
      go_wp2
      go_ret
      exact ⟨rfl, rfl⟩

set_option maxRecDepth 100000 in
theorem more_calls (s : BitVec 32) (a : Option Addr) (c : Nat) (l : List UInt8) (w : World) (hr : Row8 w a l) (hm : l.length ≤ 9223372036854775807) :
    Calls Try.prog 13 #[.int .u32 (u s), .slice a l.length c] w fun e w' => e = .returned (.int .u32 (u (more s l))) ∧ w = w' := by
  go_enter Try.func13, Try.ntmps13
  go_wp2_with fail
  go_loop [5, 12] (fun x i => ∃ k : Nat, k ≤ l.length ∧ i = .int .i64 k ∧ x = .int .u32 (u (runs (~~~ s) (l.take k)))) (fun _ i => l.length - (intOf i).toNat)
  case atStart => exact ⟨0, by omega, rfl, by rw [not_u']; rfl⟩
  case round =>
    obtain ⟨k, hk, rfl, rfl⟩ := hrel
    by_cases hlt : k < l.length
    · obtain ⟨x, rfl, hc⟩ : ∃ x, a = some x ∧ ∀ i : Nat, ∀ h : i < l.length, w.cell? (x.add i) = some (.int .u8 (l[i].toNat : Int)) := by
        rcases hr with rfl | h
        · simp at hlt
        · exact h
      have hck := hc k hlt
      clear hc hr
      go_wp2_with fail
      rw [in_byte]
      refine (step_calls _ _).mono ?_
      rintro e w' ⟨rfl, rfl⟩
      go_wp2_with fail
      go_round
      case rel => exact ⟨k + 1, by omega, by go_num, by rw [runs_snoc _ _ hlt]; rfl⟩
      case measure => simp [intOf]; omega
    · obtain rfl : k = l.length := by omega
      go_wp2_with fail
      go_ret
      exact ⟨by rw [not_u']; rfl, rfl⟩

set_option maxRecDepth 100000 in
theorem bit_calls (c : BitVec 32) (w : World) :
    Calls Try.prog 23 #[.int .u32 (u c)] w fun e w' => e = .returned (.int .u32 (u (bit c))) ∧ w = w' := by
  by_cases h : Int.tmod (u c) 2 = 1
  · have e := bit_ref1' c h
    have e := Lib.hid e
    have b0 : (Int.tmod (u c) 2 == 1) = true := beq_iff_eq.mpr h
    clear h
    go_enter Try.func23, Try.ntmps23
    go_wp2
    go_ret
    exact ⟨by rw [← e.out]; rfl, rfl⟩
  · have e := bit_ref0' c h
    have e := Lib.hid e
    have b0 : (Int.tmod (u c) 2 == 1) = false := beq_eq_false_iff_ne.mpr h
    clear h
    go_enter Try.func23, Try.ntmps23
    go_wp2
    go_ret
    exact ⟨by rw [← e.out]; rfl, rfl⟩

set_option maxRecDepth 100000 in
theorem eight_calls (c : BitVec 32) (w : World) :
    Calls Try.prog 19 #[.int .u32 (u c)] w fun e w' => e = .returned (.int .u32 (u (eight c))) ∧ w = w' := by
  go_enter Try.func19, Try.ntmps19
  go_wp2_with fail
  go_loop [0, 3] (fun x i => ∃ k : Nat, k ≤ 8 ∧ i = .int .i64 k ∧ x = .int .u32 (u (rep bit k c))) (fun _ i => 8 - (intOf i).toNat)
  case atStart => exact ⟨0, by omega, rfl, rfl⟩
  case round =>
    obtain ⟨k, hk, rfl, rfl⟩ := hrel
    by_cases hlt : k < 8
    · go_wp2_with (go_at_call 23; refine (bit_calls _ _).mono ?_; rintro e w' ⟨rfl, rfl⟩)
      go_round
      case rel => exact ⟨k + 1, by omega, by go_num, rfl⟩
      case measure => simp [intOf]; omega
    · obtain rfl : k = 8 := by omega
      go_wp2_with fail
      go_ret
      exact ⟨rfl, rfl⟩

set_option maxRecDepth 100000 in
theorem refmore_calls (s : BitVec 32) (a : Option Addr) (c : Nat) (l : List UInt8) (w : World) (hr : Row8 w a l) (hm : l.length ≤ 9223372036854775807) :
    Calls Try.prog 12 #[.int .u32 (u s), .slice a l.length c] w fun e w' => e = .returned (.int .u32 (u (more s l))) ∧ w = w' := by
  go_enter Try.func12, Try.ntmps12
  go_wp2_with fail
  go_loop [5, 6] (fun x i => ∃ k : Nat, k ≤ l.length ∧ i = .int .i64 k ∧ x = .int .u32 (u (runs (~~~ s) (l.take k)))) (fun _ i => l.length - (intOf i).toNat)
  case atStart => exact ⟨0, by omega, rfl, by rw [not_u']; rfl⟩
  case round =>
    obtain ⟨k, hk, rfl, rfl⟩ := hrel
    by_cases hlt : k < l.length
    · obtain ⟨x, rfl, hc⟩ : ∃ x, a = some x ∧ ∀ i : Nat, ∀ h : i < l.length, w.cell? (x.add i) = some (.int .u8 (l[i].toNat : Int)) := by
        rcases hr with rfl | h
        · simp at hlt
        · exact h
      have hck := hc k hlt
      clear hc hr
      go_wp2_with fail
      rw [in_byte]
      refine (eight_calls _ _).mono ?_
      rintro e w' ⟨rfl, rfl⟩
      go_wp2_with fail
      go_round
      case rel => exact ⟨k + 1, by omega, by go_num, by rw [runs_snoc _ _ hlt]; rfl⟩
      case measure => simp [intOf]; omega
    · obtain rfl : k = l.length := by omega
      go_wp2_with fail
      go_ret
      exact ⟨by rw [not_u']; rfl, rfl⟩
end Go.Proofs.Ytocbogagfdbcmaa.Crc
