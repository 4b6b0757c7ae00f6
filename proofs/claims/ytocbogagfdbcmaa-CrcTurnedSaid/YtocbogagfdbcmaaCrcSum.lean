/- The walk of the sum of any parts. -/
import Derived.Test.YtocbogagfdbcmaaCrcStep
namespace Go.Proofs.Ytocbogagfdbcmaa.Crc
open Go.RowKit

/-- The parts' bytes stand in memory: each an address, a capacity and its bytes. -/
def Parts (w : World) (a : Option Addr) (ps : List (Option Addr × Nat × List UInt8)) : Prop :=
  ps = [] ∨ ∃ x, a = some x ∧ ∀ i : Nat, ∀ h : i < ps.length, w.cell? (x.add i) = some (.slice ps[i].1 ps[i].2.2.length ps[i].2.1) ∧ Row8 w ps[i].1 ps[i].2.2 ∧ ps[i].2.2.length ≤ 9223372036854775807
/-- All their bytes. -/
def flat (ps : List (Option Addr × Nat × List UInt8)) : List UInt8 := ps.flatMap (fun p => p.2.2)

theorem flat_snoc (ps : List (Option Addr × Nat × List UInt8)) {k : Nat} (h : k < ps.length) : flat (ps.take (k + 1)) = flat (ps.take k) ++ ps[k].2.2 := by
  unfold flat; rw [List.take_succ_eq_append_getElem h, List.flatMap_append]; simp
set_option maxRecDepth 100000 in
theorem sum_calls (a : Option Addr) (c : Nat) (ps : List (Option Addr × Nat × List UInt8)) (w : World) (hr : Parts w a ps) (hm : ps.length ≤ 9223372036854775807) :
    Calls Try.prog 11 #[.slice a ps.length c] w fun e w' => e = .returned (.int .u32 (u (more 0#32 (flat ps)))) ∧ w = w' := by
  go_enter Try.func11, Try.ntmps11
  go_wp2_with fail
  go_loop [3, 8] (fun x i => ∃ k : Nat, k ≤ ps.length ∧ i = .int .i64 k ∧ x = .int .u32 (u (more 0#32 (flat (ps.take k))))) (fun _ i => ps.length - (intOf i).toNat)
  case atStart => exact ⟨0, by omega, rfl, by rw [show flat (ps.take 0) = [] from rfl, more_nil]; rfl⟩
  case round =>
    obtain ⟨k, hk, rfl, rfl⟩ := hrel
    by_cases hlt : k < ps.length
    · obtain ⟨x, rfl, hc⟩ : ∃ x, a = some x ∧ ∀ i : Nat, ∀ h : i < ps.length, w.cell? (x.add i) = some (.slice ps[i].1 ps[i].2.2.length ps[i].2.1) ∧ Row8 w ps[i].1 ps[i].2.2 ∧ ps[i].2.2.length ≤ 9223372036854775807 := by
        rcases hr with rfl | h
        · simp at hlt
        · exact h
      obtain ⟨hck, hrk, hlk⟩ := hc k hlt
      clear hc hr
      go_wp2_with fail
      refine (more_calls _ _ _ _ _ hrk hlk).mono ?_
      rintro e w' ⟨rfl, rfl⟩
      go_wp2_with fail
      go_round
      case rel => exact ⟨k + 1, by omega, by go_num, by rw [more_more, flat_snoc ps hlt]⟩
      case measure => simp [intOf]; omega
    · obtain rfl : k = ps.length := by omega
      go_wp2_with fail
      go_ret
      exact ⟨rfl, rfl⟩
end Go.Proofs.Ytocbogagfdbcmaa.Crc
