/- The walk of the law on a cut frame. -/
import Derived.Test.YtjngekbgfinidaaFrameLaw3
namespace Go.Proofs.Ytjngekbgfinidaa.Fr
set_option linter.unusedVariables false
set_option linter.unusedSimpArgs false
open Go.RowKit
open Go.Proofs.Ytjngekbgfinidaa.Num Go.Proofs.Ytjngekbgfinidaa.Crc

set_option maxRecDepth 100000 in
theorem FrameCut_walk (a : Option Addr) (c : Nat) (l : List UInt8) (at_ : Int) (w : World) (hr : Row8 w a l) (hn : a = none → c = 0) (hl : l.length ≤ 9223372036854775807) :
    Calls Try.prog 4 #[.slice a l.length c, .int .i64 at_] w fun e w' => e = .returned (.bool true) ∧ Below w.heap.size w w' := by
  have G := Lib.hid (And.intro hr hn)
  clear hr hn
  go_enter Try.func4, Try.ntmps4
  go_wp2_with fail
  refine (long_calls _ _ _ _).mono ?_
  rintro e w' ⟨rfl, rfl⟩
  by_cases hl6 : 6000 < l.length
  · go_wp2_with fail
    refine (alive_calls _).mono ?_
    rintro e w' ⟨rfl, hb⟩
    go_wp2_with fail
    go_ret
    exact ⟨rfl, hb⟩
  · by_cases h4 : 4096 < l.length
    · go_wp2_with fail
      refine (put_many none a 0 c [] l h4 hl _).mono ?_
      rintro e w1 ⟨rfl, hb⟩
      go_wp2_with fail
      refine (alive_calls _).mono ?_
      rintro e w2 ⟨rfl, hb2⟩
      go_wp2_with fail
      go_ret
      exact ⟨rfl, hb.trans (hb2.mono hb.size)⟩
    · go_wp2_with fail
      refine (put_frame none a 0 c [] l _ (.inl rfl) (fun _ => rfl) (by simp) G.out.1 G.out.2 (by omega)).mono ?_
      rintro e w1 ⟨⟨v, rfl, ho⟩, hb⟩
      rw [List.nil_append] at ho
      obtain ⟨F, hF⟩ : ∃ F, F = frame l := ⟨_, rfl⟩
      have hFl : F.length = 8 + l.length := by rw [hF, length_frame]
      rw [← hF] at ho
      obtain ⟨A, cc, rfl, hrow, hle, hcm, _⟩ := ho.row
      obtain ⟨k, hk, E⟩ := mod_in at_ (F.length : Int) (by omega) (by omega)
      have S1 := sl_hi (P := Try.prog) (t := 22) Try.underlying22 size8 A F.length cc k (by omega)
      have hp : ((F.length : Int) == 0) = false := by rw [beq_eq_false_iff_ne]; omega
      have hp0 : ¬ (F.length : Int) = 0 := by omega
      have hkl : (F.take k).length = k := by rw [List.length_take]; omega
      have hnx := next_calls A cc (F.take k) w1 (hrow.take k) (by omega) (by omega) hcm
      rw [hkl, hF, nextF_cut l (by omega) k (by omega)] at hnx
      have H1 := Lib.hid (And.intro hnx hb)
      clear hnx hb ho hrow hle hcm hkl hFl hF hl6 h4 hl
      go_wp2_with fail
      refine H1.out.1.mono ?_
      rintro e w2 ⟨v2, rfl, ho2, hb2⟩
      obtain ⟨A2, c2, rfl, _⟩ := ho2.row
      have HB := Lib.hid (H1.out.2.trans (hb2.mono H1.out.2.size))
      clear ho2 hb2
      go_wp2_with fail
      refine (alive_calls _).mono ?_
      rintro e w3 ⟨rfl, hb3⟩
      go_wp2_with fail
      go_ret
      exact ⟨rfl, HB.out.trans (hb3.mono HB.out.size)⟩
end Go.Proofs.Ytjngekbgfinidaa.Fr
