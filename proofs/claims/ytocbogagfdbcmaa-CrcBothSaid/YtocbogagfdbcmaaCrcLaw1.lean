/- The walks of three laws of crc: sums, zeros, flips. -/
import Derived.Test.YtocbogagfdbcmaaCrcLaw
import Derived.Test.YtocbogagfdbcmaaCrcTop
namespace Go.Proofs.Ytocbogagfdbcmaa.Crc
set_option linter.unusedVariables false
set_option linter.unusedSimpArgs false
open Go.RowKit

set_option maxRecDepth 100000 in
theorem CrcSums_walk (a0 : Option Addr) (cap0 : Nat) (l0 : List UInt8) (a1 : Option Addr) (cap1 : Nat) (l1 : List UInt8) (s : BitVec 32) (w : World) (r0 : Row8 w a0 l0) (r1 : Row8 w a1 l1) :
    Calls Try.prog 3 #[.slice a0 l0.length cap0, .slice a1 l1.length cap1, .int .u32 (u s)] w fun e w' => e = .returned (.bool true) ∧ Below w.heap.size w w' := by
  by_cases h0 : 5000 < l0.length
  · have d0 : decide (5000 < l0.length) = true := decide_eq_true h0
    clear h0
    go_enter Try.func3, Try.ntmps3
    go_wp2_with (first | (go_at_call 9; refine (long_calls _ _ _ _).mono ?_; rintro e w' ⟨rfl, rfl⟩) | (go_at_call 10; refine (alive_calls _).mono ?_; rintro e w' ⟨rfl, hb⟩))
    go_ret
    exact ⟨rfl, hb⟩
  · have d0 : decide (5000 < l0.length) = false := decide_eq_false h0
    by_cases h1 : 5000 < l1.length
    · have d1 : decide (5000 < l1.length) = true := decide_eq_true h1
      clear h0 h1
      go_enter Try.func3, Try.ntmps3
      go_wp2_with (first | (go_at_call 9; refine (long_calls _ _ _ _).mono ?_; rintro e w' ⟨rfl, rfl⟩) | (go_at_call 10; refine (alive_calls _).mono ?_; rintro e w' ⟨rfl, hb⟩))
      go_ret
      exact ⟨rfl, hb⟩
    · have d1 : decide (5000 < l1.length) = false := decide_eq_false h1
      have H0 := Lib.hid h0
      have H1 := Lib.hid h1
      clear h0 h1
      go_enter Try.func3, Try.ntmps3
      go_wp2_with (go_at_call 9; refine (long_calls _ _ _ _).mono ?_; rintro e w' ⟨rfl, rfl⟩)
      have r0' := r0.below (below_alloc1 w (.cells #[.slice a0 l0.length cap0, .slice a1 l1.length cap1] 22))
      have r1' := r1.below (below_alloc1 w (.cells #[.slice a0 l0.length cap0, .slice a1 l1.length cap1] 22))
      refine (sum_calls _ _ [(a0, cap0, l0), (a1, cap1, l1)] _ (Parts.two (heap_alloc_new _ _) r0' r1' (by have := H0.out; omega) (by have := H1.out; omega)) (by simp)).mono ?_
      rintro e w' ⟨rfl, rfl⟩
      rw [show flat [(a0, cap0, l0), (a1, cap1, l1)] = l0 ++ l1 from by simp [flat], ← more_more]
      go_wp2_with fail
      refine (refmore_calls 0#32 _ _ _ _ r0' (by have := H0.out; omega)).mono ?_
      rintro e w' ⟨rfl, rfl⟩
      go_wp2_with fail
      refine (refmore_calls _ _ _ _ _ r1' (by have := H1.out; omega)).mono ?_
      rintro e w' ⟨rfl, rfl⟩
      go_wp2_with fail
      refine (more_calls _ _ _ _ _ r0' (by have := H0.out; omega)).mono ?_
      rintro e w' ⟨rfl, rfl⟩
      go_wp2_with fail
      refine (refmore_calls _ _ _ _ _ r0' (by have := H0.out; omega)).mono ?_
      rintro e w' ⟨rfl, rfl⟩
      go_wp2_with fail
      refine (alive_calls _).mono ?_
      rintro e w' ⟨rfl, hb⟩
      go_wp2_with fail
      go_ret
      exact ⟨rfl, (below_alloc1 w _).trans (hb.mono (by simp))⟩

set_option maxRecDepth 100000 in
theorem CrcZeros_walk (s : BitVec 32) (n : Nat) (hn : n < 65536) (w : World) :
    Calls Try.prog 5 #[.int .u32 (u s), .int .u16 (n : Int)] w fun e w' => e = .returned (.bool true) ∧ Below w.heap.size w w' := by
  have E1 : ((n : Int) % 4294967296) = (n : Int) := by omega
  have hk : n % 5000 < 4294967296 := by omega
  obtain ⟨k, E2⟩ : ∃ k : Nat, k = n % 5000 := ⟨_, rfl⟩
  have E3 : ((n : Int) % 5000) = (k : Int) := by omega
  rw [← E2] at hk
  have K := Lib.hid hk
  clear hn hk E2
  go_enter Try.func5, Try.ntmps5
  go_wp2_with fail
  refine (zeros_calls _ _ _ K.out).mono ?_
  rintro e w' ⟨rfl, hb⟩
  go_wp2_with fail
  refine (refzeros_calls _ _ _ K.out).mono ?_
  rintro e w' ⟨rfl, rfl⟩
  go_wp2_with fail
  refine (alive_calls _).mono ?_
  rintro e w' ⟨rfl, hb2⟩
  go_wp2_with fail
  go_ret
  exact ⟨rfl, hb.trans (hb2.mono hb.size)⟩

set_option maxRecDepth 100000 in
theorem CrcFlips_walk (s : BitVec 32) (n : Nat) (hn : n < 65536) (x : UInt8) (w : World) :
    Calls Try.prog 7 #[.int .u32 (u s), .int .u16 (n : Int), .int .u8 (x.toNat : Int)] w fun e w' => e = .returned (.bool true) ∧ Below w.heap.size w w' := by
  have E1 : ((n : Int) % 4294967296) = (n : Int) := by omega
  have hk : n % 5000 < 4294967296 := by omega
  obtain ⟨k, E2⟩ : ∃ k : Nat, k = n % 5000 := ⟨_, rfl⟩
  have E3 : ((n : Int) % 5000) = (k : Int) := by omega
  rw [← E2] at hk
  have K := Lib.hid hk
  clear hn hk E2
  go_enter Try.func7, Try.ntmps7
  go_wp2_with fail
  refine (flip_calls _ _ _ _ K.out).mono ?_
  rintro e w' ⟨rfl, hb⟩
  go_wp2_with fail
  refine (refflip_calls _ _ _ _ K.out).mono ?_
  rintro e w' ⟨rfl, rfl⟩
  go_wp2_with fail
  refine (alive_calls _).mono ?_
  rintro e w' ⟨rfl, hb2⟩
  go_wp2_with fail
  go_ret
  exact ⟨rfl, hb.trans (hb2.mono hb.size)⟩
end Go.Proofs.Ytocbogagfdbcmaa.Crc
