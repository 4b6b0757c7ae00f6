/- The walks of the exported functions of crc and of the reference's, and of the law package's own two. -/
import Derived.Test.YtocbogagfdbcmaaCrcOn
namespace Go.Proofs.Ytocbogagfdbcmaa.Crc
set_option linter.unusedVariables false
set_option linter.unusedSimpArgs false
open Go.RowKit

set_option maxRecDepth 100000 in
theorem steps_calls (c : BitVec 32) (n : Nat) (w : World) (hn : n < 4294967296) :
    Calls Try.prog 22 #[.int .u32 (u c), .int .u32 (n : Int)] w fun e w' => e = .returned (.int .u32 (u (zeros n c))) ∧ w = w' := by
  have Hn := Lib.hid hn
  clear hn
  go_enter Try.func22, Try.ntmps22
  go_wp2_with fail
  go_loop [0, 5] (fun x i => ∃ k : Nat, k ≤ n ∧ i = .int .u32 (k : Int) ∧ x = .int .u32 (u (zeros k c))) (fun _ i => n - (intOf i).toNat)
  case atStart => exact ⟨0, by omega, rfl, rfl⟩
  case round =>
    obtain ⟨k, hk, rfl, rfl⟩ := hrel
    by_cases hlt : k < n
    · go_wp2_with (go_at_call 19; refine (eight_calls _ _).mono ?_; rintro e w' ⟨rfl, rfl⟩)
      have e1 : ((k : Int) + 1) % 4294967296 = ((k + 1 : Nat) : Int) := by have := Hn.out; omega
      rw [e1]
      go_round
      case rel => exact ⟨k + 1, by omega, rfl, rfl⟩
      case measure => simp [intOf]; omega
    · obtain rfl : k = n := by omega
      go_wp2_with fail
      go_ret
      exact ⟨rfl, rfl⟩

set_option maxRecDepth 100000 in
theorem refzeros_calls (c : BitVec 32) (n : Nat) (w : World) (hn : n < 4294967296) :
    Calls Try.prog 15 #[.int .u32 (u c), .int .u32 (n : Int)] w fun e w' => e = .returned (.int .u32 (u (~~~ zeros n (~~~ c)))) ∧ w = w' := by
  have Hn := Lib.hid hn
  clear hn
  go_enter Try.func15, Try.ntmps15
  go_wp2_with fail
  rw [not_u']
  refine (steps_calls _ _ _ Hn.out).mono ?_
  rintro e w' ⟨rfl, rfl⟩
  go_wp2_with fail
  go_ret
  exact ⟨by rw [not_u']; rfl, rfl⟩

set_option maxRecDepth 100000 in
theorem zeros_calls (c : BitVec 32) (n : Nat) (w : World) (hn : n < 4294967296) :
    Calls Try.prog 14 #[.int .u32 (u c), .int .u32 (n : Int)] w fun e w' => e = .returned (.int .u32 (u (~~~ zeros n (~~~ c)))) ∧ Below w.heap.size w w' := by
  have Hn := Lib.hid hn
  clear hn
  go_enter Try.func14, Try.ntmps14
  go_wp2_with fail
  rw [not_u']
  refine (on_calls _ _ _ Hn.out).mono ?_
  rintro e w' ⟨rfl, hb⟩
  go_wp2_with fail
  go_ret
  exact ⟨by rw [not_u']; rfl, hb⟩

set_option maxRecDepth 100000 in
theorem join_calls (a b : BitVec 32) (n : Nat) (w : World) (hn : n < 4294967296) :
    Calls Try.prog 16 #[.int .u32 (u a), .int .u32 (u b), .int .u32 (n : Int)] w fun e w' => e = .returned (.int .u32 (u (zeros n a ^^^ b))) ∧ Below w.heap.size w w' := by
  have Hn := Lib.hid hn
  clear hn
  go_enter Try.func16, Try.ntmps16
  go_wp2_with fail
  refine (on_calls _ _ _ Hn.out).mono ?_
  rintro e w' ⟨rfl, hb⟩
  go_wp2_with fail
  go_ret
  exact ⟨by rw [xor_u]; rfl, hb⟩

set_option maxRecDepth 100000 in
theorem flip_calls (s : BitVec 32) (n : Nat) (x : UInt8) (w : World) (hn : n < 4294967296) :
    Calls Try.prog 17 #[.int .u32 (u s), .int .u32 (n : Int), .int .u8 (x.toNat : Int)] w fun e w' => e = .returned (.int .u32 (u (s ^^^ zeros n (eight (BitVec.ofNat 32 x.toNat))))) ∧ Below w.heap.size w w' := by
  have Hn := Lib.hid hn
  clear hn
  go_enter Try.func17, Try.ntmps17
  go_wp2_with fail
  rw [byte_u]
  refine (step_calls _ _).mono ?_
  rintro e w' ⟨rfl, rfl⟩
  go_wp2_with fail
  refine (on_calls _ _ _ Hn.out).mono ?_
  rintro e w' ⟨rfl, hb⟩
  go_wp2_with fail
  go_ret
  exact ⟨by rw [xor_u]; rfl, hb⟩

set_option maxRecDepth 100000 in
theorem refflip_calls (s : BitVec 32) (n : Nat) (x : UInt8) (w : World) (hn : n < 4294967296) :
    Calls Try.prog 18 #[.int .u32 (u s), .int .u32 (n : Int), .int .u8 (x.toNat : Int)] w fun e w' => e = .returned (.int .u32 (u (s ^^^ zeros n (eight (BitVec.ofNat 32 x.toNat))))) ∧ w = w' := by
  have Hn := Lib.hid hn
  clear hn
  go_enter Try.func18, Try.ntmps18
  go_wp2_with fail
  rw [byte_u]
  refine (eight_calls _ _).mono ?_
  rintro e w' ⟨rfl, rfl⟩
  go_wp2_with fail
  refine (steps_calls _ _ _ Hn.out).mono ?_
  rintro e w' ⟨rfl, rfl⟩
  go_wp2_with fail
  go_ret
  exact ⟨by rw [xor_u]; rfl, rfl⟩
end Go.Proofs.Ytocbogagfdbcmaa.Crc
