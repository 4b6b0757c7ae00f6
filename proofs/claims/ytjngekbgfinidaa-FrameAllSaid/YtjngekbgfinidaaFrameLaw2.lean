/- The walk of the law on frames' writing. -/
import Derived.Test.YtjngekbgfinidaaFrameTop
namespace Go.Proofs.Ytjngekbgfinidaa.Fr
set_option linter.unusedVariables false
set_option linter.unusedSimpArgs false
open Go.RowKit
open Go.Proofs.Ytjngekbgfinidaa.Num Go.Proofs.Ytjngekbgfinidaa.Crc

theorem put_all (a a2 : Option Addr) (c c2 : Nat) (l m : List UInt8) (w : World) (hr : Row8 w a l) (hn : a = none → c = 0) (hl : l.length ≤ 6000) (hr2 : Row8 w a2 m) (hn2 : a2 = none → c2 = 0) (hm : m.length ≤ 6000) :
    Calls Try.prog 15 #[.slice a l.length c, .slice a2 m.length c2] w fun e w' => ∃ v, e = .returned (.tuple #[v, .int .i64 (if 4096 < m.length then 5 else 0)]) ∧ Own8 w' w.heap.size 5 v (if 4096 < m.length then [] else l ++ frame m) ∧ Below w.heap.size w w' := by
  by_cases h : 4096 < m.length
  · refine (put_many a a2 c c2 l m h (by omega) w).mono ?_
    rintro e w' ⟨rfl, hb⟩
    rw [if_pos h, if_pos h]
    exact ⟨_, rfl, Own8.nil _ _ _, hb⟩
  · refine (put_frame a a2 c c2 l m w hr hn (by omega) hr2 hn2 (by omega)).mono ?_
    rintro e w' ⟨⟨v, rfl, ho⟩, hb⟩
    rw [if_neg h, if_neg h]
    exact ⟨_, rfl, ho, hb⟩
theorem refput_all (a a2 : Option Addr) (c c2 : Nat) (l m : List UInt8) (w : World) (hr : Row8 w a l) (hn : a = none → c = 0) (hl : l.length ≤ 6000) (hr2 : Row8 w a2 m) (hn2 : a2 = none → c2 = 0) (hm : m.length ≤ 6000) :
    Calls Try.prog 16 #[.slice a l.length c, .slice a2 m.length c2] w fun e w' => ∃ v, e = .returned (.tuple #[v, .int .i64 (if 4096 < m.length then 5 else 0)]) ∧ Own8 w' w.heap.size 5 v (if 4096 < m.length then [] else l ++ frame m) ∧ Below w.heap.size w w' := by
  by_cases h : 4096 < m.length
  · refine (refput_many a a2 c c2 l m h (by omega) w).mono ?_
    rintro e w' ⟨rfl, hb⟩
    rw [if_pos h, if_pos h]
    exact ⟨_, rfl, Own8.nil _ _ _, hb⟩
  · refine (refput_frame a a2 c c2 l m w hr hn (by omega) hr2 hn2 (by omega)).mono ?_
    rintro e w' ⟨⟨v, rfl, ho⟩, hb⟩
    rw [if_neg h, if_neg h]
    exact ⟨_, rfl, ho, hb⟩

set_option maxRecDepth 100000 in
theorem FramePuts_walk (a a2 : Option Addr) (c c2 : Nat) (l m : List UInt8) (w : World) (hr : Row8 w a l) (hn : a = none → c = 0) (hl : l.length ≤ 9223372036854775807) (hr2 : Row8 w a2 m) (hn2 : a2 = none → c2 = 0) (hm : m.length ≤ 9223372036854775807) :
    Calls Try.prog 6 #[.slice a l.length c, .slice a2 m.length c2] w fun e w' => e = .returned (.bool true) ∧ Below w.heap.size w w' := by
  have G := Lib.hid (And.intro hr (And.intro hn (And.intro hr2 hn2)))
  clear hr hn hr2 hn2
  go_enter Try.func6, Try.ntmps6
  go_wp2_with fail
  refine (long_calls _ _ _ _).mono ?_
  rintro e w' ⟨rfl, rfl⟩
  by_cases hl6 : 6000 < l.length
  · go_wp2_with fail
    refine (alive_calls _).mono ?_
    rintro e w' ⟨rfl, hb⟩
    go_wp2_with fail
    go_ret
    exact ⟨rfl, hb⟩
  · go_wp2_with fail
    refine (long_calls _ _ _ _).mono ?_
    rintro e w' ⟨rfl, rfl⟩
    by_cases hm6 : 6000 < m.length
    · go_wp2_with fail
      refine (alive_calls _).mono ?_
      rintro e w' ⟨rfl, hb⟩
      go_wp2_with fail
      go_ret
      exact ⟨rfl, hb⟩
    · go_wp2_with fail
      refine (put_all a a2 c c2 l m _ G.out.1 G.out.2.1 (by omega) G.out.2.2.1 G.out.2.2.2 (by omega)).mono ?_
      rintro e w1 ⟨v, rfl, ho, hb⟩
      have H1 := Lib.hid (And.intro ho hb)
      clear ho hb
      obtain ⟨x, ex⟩ : ∃ x : Int, x = if 4096 < m.length then 5 else 0 := ⟨_, rfl⟩
      rw [← ex]
      have hx : 0 ≤ x ∧ x ≤ 5 := by rw [ex]; split <;> omega
      have EX := Lib.hid ex
      clear ex
      go_wp2_with fail
      refine (refput_all a a2 c c2 l m _ (G.out.1.below H1.out.2) G.out.2.1 (by omega) (G.out.2.2.1.below H1.out.2) G.out.2.2.2 (by omega)).mono ?_
      rintro e w2 ⟨v2, rfl, ho2, hb2⟩
      have H2 := Lib.hid (And.intro (H1.out.1.below hb2) (And.intro ho2 (H1.out.2.trans (hb2.mono H1.out.2.size))))
      clear ho2 hb2
      rw [← EX.out]
      go_wp2_with fail
      refine (same_own H2.out.1 H2.out.2.1 (Below.refl _ _)).mono ?_
      rintro e w3 ⟨rfl, rfl⟩
      go_wp2_with fail
      refine (pubsize_calls (m.length : Int) (by omega) (by omega) _).mono ?_
      rintro e w3 ⟨rfl, hb3⟩
      go_wp2_with fail
      refine (refpubsize_calls (m.length : Int) (by omega) (by omega) _).mono ?_
      rintro e w4 ⟨rfl, hb4⟩
      go_wp2_with fail
      refine (pubsize_calls (-(l.length : Int)) (by omega) (by omega) _).mono ?_
      rintro e w5 ⟨rfl, hb5⟩
      go_wp2_with fail
      refine (refpubsize_calls (-(l.length : Int)) (by omega) (by omega) _).mono ?_
      rintro e w6 ⟨rfl, hb6⟩
      go_wp2_with fail
      refine (alive_calls _).mono ?_
      rintro e w7 ⟨rfl, hb7⟩
      go_wp2_with fail
      go_ret
      refine ⟨rfl, ?_⟩
      have h2 := H2.out.2.2
      have h3 := h2.trans (hb3.mono h2.size)
      have h4 := h3.trans (hb4.mono h3.size)
      have h5 := h4.trans (hb5.mono h4.size)
      have h6 := h5.trans (hb6.mono h5.size)
      exact h6.trans (hb7.mono h6.size)
end Go.Proofs.Ytjngekbgfinidaa.Fr
