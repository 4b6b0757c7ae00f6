/- The walks of three laws of crc: cuts, both, turned. -/
import Derived.Test.YtocbogagfdbcmaaCrcLaw1
import Derived.Deep.RegionHeld3
namespace Go.Proofs.Ytocbogagfdbcmaa.Crc
set_option linter.unusedVariables false
set_option linter.unusedSimpArgs false
open Go.RowKit

theorem size8 : ∀ w, (sizeOf (Try.prog.elem 22)).run Try.prog w = .ok 1 w := fun w => by kernel_rfl

set_option maxHeartbeats 1000000 in
set_option maxRecDepth 100000 in
theorem CrcCuts_walk (a : Option Addr) (c : Nat) (l : List UInt8) (at_ : Int) (w : World) (hr : Row8 w a l) (hc : l.length ≤ c) :
    Calls Try.prog 4 #[.slice a l.length c, .int .i64 at_] w fun e w' => e = .returned (.bool true) ∧ Below w.heap.size w w' := by
  by_cases h0 : 5000 < l.length
  · have d0 : decide (5000 < l.length) = true := decide_eq_true h0
    clear h0
    go_enter Try.func4, Try.ntmps4
    go_wp2_with (first | (go_at_call 9; refine (long_calls _ _ _ _).mono ?_; rintro e w' ⟨rfl, rfl⟩) | (go_at_call 10; refine (alive_calls _).mono ?_; rintro e w' ⟨rfl, hb⟩))
    go_ret
    exact ⟨rfl, hb⟩
  · have d0 : decide (5000 < l.length) = false := decide_eq_false h0
    have h3 : l.length ≤ 5000 := by omega
    clear h0
    obtain ⟨k, hk, E⟩ := mod_in at_ ((l.length : Int) + 1) (by omega) (by omega)
    obtain ⟨a2, S2, R2⟩ := sl_lo (P := Try.prog) (t := 22) Try.underlying22 size8 a l.length c k (by omega)
    have S1 := sl_hi (P := Try.prog) (t := 22) Try.underlying22 size8 a l.length c k (by omega)
    have r1 := hr.take k
    have r2 := R2 w l rfl hc hr
    obtain ⟨l1, e1⟩ : ∃ l1, l1 = l.take k := ⟨_, rfl⟩
    obtain ⟨l2, e2⟩ : ∃ l2, l2 = l.drop k := ⟨_, rfl⟩
    have f1 : l1.length = k := by rw [e1, List.length_take]; omega
    have f2 : l2.length = l.length - k := by rw [e2, List.length_drop]
    have f3 : l1 ++ l2 = l := by rw [e1, e2, List.take_append_drop]
    rw [← e1] at r1
    rw [← e2] at r2
    rw [← f2] at S2
    conv at S1 => intro w; rhs; rw [← f1]
    have F := Lib.hid (And.intro f3 h3)
    have g1 : l1.length ≤ 9223372036854775807 := by omega
    have g2 : l2.length ≤ 9223372036854775807 := by omega
    have f4 : more (more 0#32 l1) l2 = more 0#32 l := by rw [more_more, f3]
    clear e1 e2 f1 f2 R2
    have G := Lib.hid (And.intro r1 (And.intro r2 (And.intro g1 (And.intro g2 hr))))
    clear r1 r2 g1 g2 hr
    go_enter Try.func4, Try.ntmps4
    go_wp2_with (go_at_call 9; refine (long_calls _ _ _ _).mono ?_; rintro e w' ⟨rfl, rfl⟩)
    refine (sum1 (w0 := w) _ a c l G.out.2.2.2.2 (by have := F.out; omega) (below_alloc1 _ _) (heap_alloc_new _ _)).mono ?_
    rintro e w' ⟨rfl, rfl⟩
    go_wp2_with fail
    clear E
    go_region_held3 (fun _ => True) (trivial) (first | (go_at_call 10; refine (alive_calls _).mono ?_; rintro e w' ⟨rfl, hb⟩) | (go_at_call 13; ((with_reducible refine (more_calls _ _ _ l2 _ (G.out.2.1.below (by repeat (first | exact Below.refl _ _ | assumption | apply Below.drew | apply below_drewN | (refine Below.alloc ?_ (by first | (simp; done) | omega | (simp; omega)) _)))) G.out.2.2.2.1).mono ?_); rintro e w' ⟨rfl, rfl⟩)) | (go_at_call 11; ((with_reducible refine (sum3 (w0 := w) _ _ _ _ _ l1 l2 G.out.1 G.out.2.1 G.out.2.2.1 G.out.2.2.2.1 (by repeat (first | exact Below.refl _ _ | assumption | apply Below.drew | apply below_drewN | (refine Below.alloc ?_ (by first | (simp; done) | omega | (simp; omega)) _))) (by repeat (first | exact heap_at (by first | (simp; done) | omega | (simp; omega)) | assumption | (apply hqJ.out) | (apply hqZ.out) | apply heap_behind_drew | apply heap_behind_drewN | apply heap_past))).mono ?_); rintro e w' ⟨rfl, rfl⟩)) | (go_at_call 11; ((with_reducible refine (sum1 (w0 := w) _ _ _ l1 G.out.1 G.out.2.2.1 (by repeat (first | exact Below.refl _ _ | assumption | apply Below.drew | apply below_drewN | (refine Below.alloc ?_ (by first | (simp; done) | omega | (simp; omega)) _))) (by repeat (first | exact heap_at (by first | (simp; done) | omega | (simp; omega)) | assumption | (apply hqJ.out) | (apply hqZ.out) | apply heap_behind_drew | apply heap_behind_drewN | apply heap_past))).mono ?_); rintro e w' ⟨rfl, rfl⟩)))
    all_goals
      go_wp2_with fail
      go_ret
      exact ⟨rfl, (show Below w.heap.size w _ from (by repeat (first | exact Below.refl _ _ | assumption | apply Below.drew | apply below_drewN | (refine Below.alloc ?_ (by first | (simp; done) | omega | (simp; omega)) _)))).trans (hb.mono (by simp; omega))⟩
end Go.Proofs.Ytocbogagfdbcmaa.Crc
