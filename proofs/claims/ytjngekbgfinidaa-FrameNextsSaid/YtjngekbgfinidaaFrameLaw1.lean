/- The walk of the law on the next frame. -/
import Derived.Test.YtjngekbgfinidaaFrameTop
namespace Go.Proofs.Ytjngekbgfinidaa.Fr
set_option linter.unusedVariables false
set_option linter.unusedSimpArgs false
open Go.RowKit
open Go.Proofs.Ytjngekbgfinidaa.Num Go.Proofs.Ytjngekbgfinidaa.Crc

set_option maxRecDepth 100000 in
theorem FrameNexts_walk (a : Option Addr) (c : Nat) (l : List UInt8) (w : World) (hr : Row8 w a l) (hc : l.length ≤ c) (hcm : c ≤ 9223372036854775807) :
    Calls Try.prog 3 #[.slice a l.length c] w fun e w' => e = .returned (.bool true) ∧ Below w.heap.size w w' := by
  have G := Lib.hid (And.intro hr (And.intro hc hcm))
  clear hr hc hcm
  go_enter Try.func3, Try.ntmps3
  go_wp2_with fail
  refine (long_calls _ _ _ _).mono ?_
  rintro e w' ⟨rfl, rfl⟩
  by_cases hl : 6000 < l.length
  · go_wp2_with fail
    refine (alive_calls _).mono ?_
    rintro e w' ⟨rfl, hb⟩
    go_wp2_with fail
    go_ret
    exact ⟨rfl, hb⟩
  · go_wp2_with fail
    refine (next_calls a c l _ G.out.1 G.out.2.1 (by omega) G.out.2.2).mono ?_
    rintro e w1 ⟨v, rfl, ho, hb⟩
    have H1 := Lib.hid (And.intro ho (And.intro hb (G.out.1.below hb)))
    clear ho hb
    obtain ⟨x, ex⟩ : ∃ x, x = (nextF l).2.1 := ⟨_, rfl⟩
    obtain ⟨y, ey⟩ : ∃ y, y = (nextF l).2.2 := ⟨_, rfl⟩
    have hx : (nextF l).2.1 ≤ 4104 ∧ (nextF l).2.2 ≤ 8 := by
      have := sizeF_le l
      unfold nextF
      split
      · exact ⟨Nat.zero_le _, by show (sizeF l).2 ≤ 8; omega⟩
      · split
        · simp
        · split
          · exact ⟨this.1, Nat.zero_le _⟩
          · simp
    rw [← ex, ← ey] at hx ⊢
    go_wp2_with fail
    refine (refnext_calls a c l _ H1.out.2.2 G.out.2.1 (by omega)).mono ?_
    rintro e w2 ⟨⟨v2, rfl, ho2⟩, hb2⟩
    have H2 := Lib.hid (And.intro (H1.out.1.below hb2) (And.intro ho2 (H1.out.2.1.trans (hb2.mono H1.out.2.1.size))))
    clear ho2 hb2
    rw [← ex, ← ey]
    have HE := Lib.hid (And.intro ex ey)
    clear ex ey
    go_wp2_with fail
    refine (same_own H2.out.1 H2.out.2.1 (Below.refl _ _)).mono ?_
    rintro e w3 ⟨rfl, rfl⟩
    go_wp2_with fail
    refine (alive_calls _).mono ?_
    rintro e w4 ⟨rfl, hb4⟩
    go_wp2_with fail
    go_ret
    exact ⟨rfl, H2.out.2.2.trans (hb4.mono H2.out.2.2.size)⟩
end Go.Proofs.Ytjngekbgfinidaa.Fr
