/- The walks of the law package's own two functions. -/
import Derived.Test.YtocbogagfdbcmaaCrcSum
import Derived.Lib.SmallJoins
namespace Go.Proofs.Ytocbogagfdbcmaa.Crc
set_option linter.unusedVariables false
set_option linter.unusedSimpArgs false
open Go.RowKit

set_option maxRecDepth 100000 in
theorem long_calls (a : Option Addr) (n c : Nat) (w : World) :
    Calls Try.prog 9 #[.slice a n c] w fun e w' => e = .returned (.bool (decide (5000 < n))) ∧ w = w' := by
  go_enter Try.func9, Try.ntmps9
  go_wp2_with fail
  go_ret
  exact ⟨by congr 2; simp; omega, rfl⟩

theorem nine (a b : Option Addr) : u (more 0#32 (flat [(a, 4, [49, 50, 51, 52]), (b, 5, [53, 54, 55, 56, 57])])) = 3808858755 := by
  show u (more 0#32 [49, 50, 51, 52, 53, 54, 55, 56, 57]) = 3808858755
  decide +kernel
set_option maxRecDepth 100000 in
theorem alive_calls (w : World) :
    Calls Try.prog 10 #[] w fun e w' => e = .returned (.bool true) ∧ Below w.heap.size w w' := by
  have kc := fun (w : World) (C : Array Value) (n c g : Nat) (hg : g = w.heap.size) => Joins.run_convert_bytes_const_at (P := Try.prog) w 22 5 C n c g hg Try.underlying22 Try.underlying5
  go_enter Try.func10, Try.ntmps10
  go_wp2_with fail
  refine (sum_calls _ _ [(some ⟨w.heap.size, 0, none⟩, 4, [49, 50, 51, 52]), (some ⟨w.heap.size + 1, 0, none⟩, 5, [53, 54, 55, 56, 57])] _ ?hp (by simp)).mono ?_
  case hp =>
    have hb := three_blocks w (.cells #[.int .u8 49, .int .u8 50, .int .u8 51, .int .u8 52] 5 (4, 5)) (.cells #[.int .u8 53, .int .u8 54, .int .u8 55, .int .u8 56, .int .u8 57] 5 (5, 6)) (.cells #[.slice (some ⟨w.heap.size, 0, none⟩) 4 4, .slice (some ⟨w.heap.size + 1, 0, none⟩) 5 5] 22)
    obtain ⟨h0, h1, h2⟩ := hb
    refine .inr ⟨_, rfl, fun i h => ?_⟩
    have hi : i = 0 ∨ i = 1 := by simp at h; omega
    rcases hi with rfl | rfl
    · exact ⟨(cell_block h2).trans rfl, Row8.lit h0 rfl, by simp⟩
    · exact ⟨(cell_block h2).trans rfl, Row8.lit h1 rfl, by simp⟩
  rintro e w' ⟨rfl, rfl⟩
  rw [nine]
  go_wp2_with fail
  refine (sum_calls none 0 [] _ (.inl rfl) (by simp)).mono ?_
  rintro e w' ⟨rfl, rfl⟩
  rw [show u (more 0#32 (flat [])) = 0 from by decide +kernel]
  go_wp2_with fail
  go_ret
  exact ⟨rfl, (((Below.refl _ _).alloc (Nat.le_refl _) _).alloc (by simp) _).alloc (by simp; omega) _⟩
end Go.Proofs.Ytocbogagfdbcmaa.Crc
