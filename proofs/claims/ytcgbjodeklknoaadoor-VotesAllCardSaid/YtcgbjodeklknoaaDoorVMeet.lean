/- The walk of the law: sets that read and write meet. -/
import Derived.Test.YtcgbjodeklknoaaDoorVCounts
namespace Go.Proofs.YtcgbjodeklknoaaDoor.Vo
set_option linter.unusedVariables false
set_option linter.unusedSimpArgs false
open Go.RowKit
open Go.Proofs.YtcgbjodeklknoaaDoor.Bit

theorem may_votes {c : Cf} (h : mayF c = true) : c.V.sum < c.r + c.q ∧ c.V.sum < 2 * c.q ∧ c.r ≤ c.V.sum ∧ c.q ≤ c.V.sum := by
  unfold mayF at h
  rw [decide_eq_true_eq] at h
  omega
set_option maxHeartbeats 2000000 in
set_option maxRecDepth 100000 in
theorem VotesMeet_walk (c : Cf) (hc : c.Ok) (a b : Nat) (ha : a < 18446744073709551616) (hb : b < 18446744073709551616) (w : World) (hT : TabAt 0 Lib.deBruijn64tab w) (hw : 0 < w.heap.size) :
    Calls Tryd.prog 5 #[c.val, .int .u64 (a : Int), .int .u64 (b : Int)] w fun e w' => e = .returned (.bool true) ∧ Below w.heap.size w w' := by
  have c1 := fun W => vmay_calls c hc W
  have c2 := fun W => vvoters_calls c hc W
  have c3 := fun W => vwrites_calls c hc b hb W
  have c4 := fun W => vreads_calls c hc a ha W
  have c5 := fun W => vwrites_calls c hc a ha W
  have hmeet : mayF c = true → c.q ≤ of c.V b → (c.r ≤ of c.V a ∨ c.q ≤ of c.V a) → a &&& b &&& voters c.V ≠ 0 := by
    intro h1 h2 h3
    have h4 := may_votes h1
    exact meet c.V a b (by omega)
  have hvl := voters_lt64 c.V (by rw [Cf.len]; omega)
  obtain ⟨T, hV⟩ : ∃ n, n = voters c.V := ⟨_, rfl⟩
  obtain ⟨na, hna⟩ : ∃ n, n = of c.V a := ⟨_, rfl⟩
  obtain ⟨nb, hnb⟩ : ∃ n, n = of c.V b := ⟨_, rfl⟩
  rw [← hV] at c2 hmeet hvl
  rw [← hna] at c4 c5 hmeet
  rw [← hnb] at c3 hmeet
  have hab : a &&& b < 18446744073709551616 := Nat.lt_of_le_of_lt Nat.and_le_left ha
  have e1 : Go.bits .and .u64 (a : Int) (b : Int) = ((a &&& b : Nat) : Int) := bits_and_u64_nat a b ha hb
  have e2 : Go.bits .and .u64 ((a &&& b : Nat) : Int) (T : Int) = ((a &&& b &&& T : Nat) : Int) := bits_and_u64_nat _ _ hab (by omega)
  obtain ⟨x, hx0⟩ : ∃ x, x = a &&& b := ⟨_, rfl⟩
  rw [← hx0] at e1 e2 hmeet
  obtain ⟨m, hm0⟩ : ∃ m, m = x &&& T := ⟨_, rfl⟩
  rw [← hm0] at e2 hmeet
  obtain ⟨y, hy⟩ : ∃ y, y = mayF c := ⟨_, rfl⟩
  rw [← hy] at c1 hmeet
  have G := Lib.hid (And.intro c1 (And.intro c2 (And.intro c3 (And.intro c4 (And.intro c5 (And.intro hmeet hT))))))
  have HX := Lib.hid (bx_new c w)
  clear c1 c2 c3 c4 c5 hT hV hna hnb hmeet hx0 hm0 hy hc hab hvl ha hb
  unfold Cf.val at G ⊢
  go_enter Tryd.func5, Tryd.ntmps5
  go_wp2_with fail
  generalize w.alloc (.cells #[.int .u32 (c.e : Int), .int .u8 (c.r : Int), .int .u8 (c.q : Int), .int .u8 (c.v0 : Int), .int .u8 (c.v1 : Int), .int .u8 (c.v2 : Int), .int .u8 (c.v3 : Int), .int .u8 (c.v4 : Int), .int .u8 (c.v5 : Int), .int .u8 (c.v6 : Int), .int .u8 (c.v7 : Int)] 25) = w1 at HX ⊢
  refine (at_of HX (G.out.1 w1)).mono ?_
  rintro e w2 ⟨rfl, hx⟩
  cases y with
  | false =>
    go_wp2_with fail
    refine (alive_at hx G.out.2.2.2.2.2.2 hw).mono ?_
    rintro e w3 ⟨rfl, hx3⟩
    go_wp2_with fail
    go_ret
    exact ⟨rfl, hx3.out.1⟩
  | true =>
    obtain ⟨k0, k1, k2, k3, k4, k5, k6, k7, k8, k9, k10⟩ := hx.out.2
    go_wp2_with fail
    refine (at_of hx (G.out.2.1 w2)).mono ?_
    rintro e w3 ⟨rfl, hx3⟩
    clear k0 k1 k2 k3 k4 k5 k6 k7 k8 k9 k10
    obtain ⟨k0, k1, k2, k3, k4, k5, k6, k7, k8, k9, k10⟩ := hx3.out.2
    go_wp2_with fail
    refine (at_of hx3 (G.out.2.2.1 w3)).mono ?_
    rintro e w4 ⟨rfl, hx4⟩
    clear k0 k1 k2 k3 k4 k5 k6 k7 k8 k9 k10
    obtain ⟨k0, k1, k2, k3, k4, k5, k6, k7, k8, k9, k10⟩ := hx4.out.2
    by_cases p1 : c.q ≤ nb
    · rw [decide_eq_true p1]
      go_wp2_with fail
      refine (at_of hx4 (G.out.2.2.2.1 w4)).mono ?_
      rintro e w5 ⟨rfl, hx5⟩
      clear k0 k1 k2 k3 k4 k5 k6 k7 k8 k9 k10
      obtain ⟨k0, k1, k2, k3, k4, k5, k6, k7, k8, k9, k10⟩ := hx5.out.2
      by_cases p2 : c.r ≤ na
      · rw [decide_eq_true p2]
        have hne : ((m : Int) == 0) = false := by have := G.out.2.2.2.2.2.1 trivial p1 (.inl p2); rw [beq_eq_false_iff_ne]; omega
        go_wp2_with fail
        refine (alive_at hx5 G.out.2.2.2.2.2.2 hw).mono ?_
        rintro e w6 ⟨rfl, hx6⟩
        go_wp2_with fail
        go_ret
        exact ⟨rfl, hx6.out.1⟩
      · rw [decide_eq_false p2]
        go_wp2_with fail
        refine (at_of hx5 (G.out.2.2.2.2.1 w5)).mono ?_
        rintro e w6 ⟨rfl, hx6⟩
        by_cases p3 : c.q ≤ na
        · rw [decide_eq_true p3]
          have hne : ((m : Int) == 0) = false := by have := G.out.2.2.2.2.2.1 trivial p1 (.inr p3); rw [beq_eq_false_iff_ne]; omega
          go_wp2_with fail
          refine (alive_at hx6 G.out.2.2.2.2.2.2 hw).mono ?_
          rintro e w7 ⟨rfl, hx7⟩
          go_wp2_with fail
          go_ret
          exact ⟨rfl, hx7.out.1⟩
        · rw [decide_eq_false p3]
          go_wp2_with fail
          refine (alive_at hx6 G.out.2.2.2.2.2.2 hw).mono ?_
          rintro e w7 ⟨rfl, hx7⟩
          go_wp2_with fail
          go_ret
          exact ⟨rfl, hx7.out.1⟩
    · rw [decide_eq_false p1]
      go_wp2_with fail
      refine (alive_at hx4 G.out.2.2.2.2.2.2 hw).mono ?_
      rintro e w5 ⟨rfl, hx5⟩
      go_wp2_with fail
      go_ret
      exact ⟨rfl, hx5.out.1⟩
end Go.Proofs.YtcgbjodeklknoaaDoor.Vo
