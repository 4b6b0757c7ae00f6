/- The walks of: are two lists of sets the same? of the law package's 'alive'; and of the reference's Make. -/
import Derived.Test.YtcgbjodeklknoaaDoorVMake
namespace Go.Proofs.YtcgbjodeklknoaaDoor.Vo
set_option linter.unusedVariables false
set_option linter.unusedSimpArgs false
open Go.RowKit
open Go.Proofs.YtcgbjodeklknoaaDoor.Bit

/-- Two lists of numbers: the same? -/
theorem sets_off (a a' : Option Addr) (n c n' c' : Nat) (w : World) (h : n ≠ n') :
    Calls Tryd.prog 28 #[.slice a n c, .slice a' n' c'] w fun e w' => e = .returned (.bool false) ∧ Below w.heap.size w w' := by
  have hb : ((n : Int) != (n' : Int)) = true := by rw [bne_iff_ne]; omega
  go_enter Tryd.func28, Tryd.ntmps28
  go_wp2_with fail
  go_ret
  exact ⟨rfl, Below.refl _ _⟩
/-- Numbers in memory. -/
def RowU (w : World) (a : Option Addr) (xs : List Nat) : Prop := xs = [] ∨ ∃ x, a = some x ∧ ∀ i : Nat, ∀ h : i < xs.length, w.cell? (x.add i) = some (.int .u64 (xs[i] : Int))
theorem RowU.below {w w' : World} {a : Option Addr} {xs : List Nat} (h : RowU w a xs) (hb : Below w.heap.size w w') : RowU w' a xs := by
  rcases h with h | ⟨x, rfl, h⟩
  · exact .inl h
  · exact .inr ⟨x, rfl, fun i hi => (hb.cell (World.block_lt_of_cell? w _ (h i hi))).trans (h i hi)⟩
theorem own_sets {w : World} {base : Nat} {v : Value} {xs : List Nat} (h : w.ownsRow base 35 1 v xs.length (u64s xs)) : ∃ A c, v = .slice A xs.length c ∧ RowU w A xs := by
  have hc := fun g (hg : v.ownBlock = some g) => World.ownsRow.cells h hg
  rcases h.2 with ⟨rfl, hn⟩ | ⟨g, cap, cur, rfl, _⟩
  · exact ⟨none, 0, by rw [hn], .inl (List.eq_nil_of_length_eq_zero hn)⟩
  · exact ⟨_, cap, rfl, .inr ⟨_, rfl, fun i hi => hc g rfl i _ (by simp [u64s, hi])⟩⟩
set_option maxRecDepth 100000 in
theorem sets_calls (a : Option Addr) (c : Nat) (xs : List Nat) (a' : Option Addr) (c' : Nat) (ys : List Nat) (w : World) (hp : RowU w a xs) (hq : RowU w a' ys) (hm : xs.length ≤ 9223372036854775807) :
    Calls Tryd.prog 28 #[.slice a xs.length c, .slice a' ys.length c'] w fun e w' => e = .returned (.bool (decide (xs = ys))) ∧ Below w.heap.size w w' := by
  by_cases hn : xs.length = ys.length
  · have hb : ((xs.length : Int) != (ys.length : Int)) = false := by rw [hn]; simp
    have G := Lib.hid (And.intro hp hq)
    clear hp hq
    go_enter Tryd.func28, Tryd.ntmps28
    go_wp2_with fail
    go_loopw [5] (fun i w' => ∃ k : Nat, k ≤ xs.length ∧ i = .int .i64 (k : Int) ∧ Below w.heap.size w w' ∧ xs.take k = ys.take k) (fun i _ => xs.length - (intOf i).toNat)
    case atStart => exact ⟨0, by omega, rfl, Below.refl _ _, rfl⟩
    case round =>
      obtain ⟨k, hk, rfl, hB, hcat⟩ := hrel
      by_cases hlt : k < xs.length
      · obtain ⟨x, rfl, hc⟩ : ∃ x, a = some x ∧ ∀ i : Nat, ∀ h : i < xs.length, wr.cell? (x.add i) = some (.int .u64 (xs[i] : Int)) := by
          rcases G.out.1.below hB with h | h
          · rw [h] at hlt; simp at hlt
          · exact h
        obtain ⟨y, rfl, hd⟩ : ∃ x, a' = some x ∧ ∀ i : Nat, ∀ h : i < ys.length, wr.cell? (x.add i) = some (.int .u64 (ys[i] : Int)) := by
          rcases G.out.2.below hB with h | h
          · exfalso; rw [hn, h] at hlt; simp at hlt
          · exact h
        have c1 := hc k hlt
        have hltq : k < ys.length := by omega
        have c2 := hd k hltq
        clear hc hd
        obtain ⟨l1, e1⟩ : ∃ l1, l1 = xs[k] := ⟨_, rfl⟩
        obtain ⟨l2, e2⟩ : ∃ l2, l2 = ys[k] := ⟨_, rfl⟩
        rw [← e1] at c1
        rw [← e2] at c2
        have HE := Lib.hid (And.intro e1 (And.intro e2 (And.intro hcat hB)))
        clear e1 e2 hcat hB
        by_cases hl : l1 = l2
        · have hq : ((l1 : Int) != (l2 : Int)) = false := by rw [hl]; simp
          have HL := Lib.hid hl
          clear hl
          go_wp2_with fail
          go_quiet (fail)
          go_wp2_with fail
          go_round
          case rel =>
            refine ⟨k + 1, by omega, by go_num, below_drewN HE.out.2.2.2 _, ?_⟩
            rw [List.take_succ_eq_append_getElem hlt, List.take_succ_eq_append_getElem hltq, HE.out.2.2.1, ← HE.out.1, ← HE.out.2.1, HL.out]
          case measure => (first | (simp [intOf]; done) | (simp [intOf]; omega))
        · have hq : ((l1 : Int) != (l2 : Int)) = true := by rw [bne_iff_ne]; omega
          have HL := Lib.hid hl
          clear hl
          go_wp2_with fail
          go_quiet (fail)
          go_wp2_with fail
          go_ret
          refine ⟨?_, below_drewN HE.out.2.2.2 _⟩
          rw [decide_eq_false]
          · rfl
          · intro h
            apply HL.out
            rw [HE.out.1, HE.out.2.1]
            exact List.getElem_of_eq h _
      · obtain rfl : k = xs.length := by omega
        have HC := Lib.hid hcat
        clear hcat
        go_wp2_with fail
        go_ret
        refine ⟨?_, hB⟩
        have h := HC.out
        rw [List.take_of_length_le (Nat.le_refl _), List.take_of_length_le (by omega)] at h
        rw [decide_eq_true h]
        rfl
  · refine (sets_off a a' xs.length c ys.length c' w hn).mono ?_
    rintro e w' ⟨rfl, hb⟩
    refine ⟨?_, hb⟩
    rw [decide_eq_false]
    intro h
    apply hn
    rw [h]

theorem alive_facts : ∃ c : Cf, makeF 1 2 2 [1, 1, 1] = (c, 0) ∧ c.Ok ∧ mayF c = true ∧ c.V.sum = 3 ∧ decide (c.r ≤ of c.V 3) = true ∧ decide (c.q ≤ of c.V 4) = false ∧ qs c.V 2 = [3, 5, 6] := by
  refine ⟨ofL 1 2 2 [1, 1, 1], ?_, ofL_ok _ (by omega) (by omega) (by omega), by decide +kernel, by decide +kernel, by decide +kernel, by decide +kernel, by decide +kernel⟩
  unfold makeF
  rw [if_pos ⟨by decide, by decide +kernel⟩]
theorem lit_u64 {w : World} {x y z : Nat} : RowU (w.alloc (.cells #[.int .u64 (x : Int), .int .u64 (y : Int), .int .u64 (z : Int)] 35)) (some ⟨w.heap.size, 0, none⟩) [x, y, z] := by
  refine .inr ⟨_, rfl, fun i hi => ?_⟩
  have h2 : i = 0 ∨ i = 1 ∨ i = 2 := by simp at hi; omega
  rcases h2 with rfl | rfl | rfl
  · exact (cell_block (heap_alloc_new _ _)).trans rfl
  · exact (cell_block (heap_alloc_new _ _)).trans rfl
  · exact (cell_block (heap_alloc_new _ _)).trans rfl
set_option maxHeartbeats 1000000 in
theorem alive_calls (w : World) (hT : TabAt 0 Lib.deBruijn64tab w) (hw : 0 < w.heap.size) :
    Calls Tryd.prog 11 #[] w fun e w' => e = .returned (.bool true) ∧ Below w.heap.size w w' := by
  obtain ⟨c, f1, f2, f3, f4, f5, f6, f7⟩ := alive_facts
  have hmk := vmake_calls 1 2 2 (some ⟨w.heap.size, 0, none⟩) 3 [1, 1, 1] (by omega) (by omega) (by omega) (w.alloc (.cells #[.int .u8 1, .int .u8 1, .int .u8 1] 5)) (Row8.lit (heap_alloc_new _ _) rfl) (by simp)
  rw [f1] at hmk
  have G := Lib.hid (And.intro hT (And.intro hmk (And.intro f2 (And.intro f3 (And.intro f4 (And.intro f5 (And.intro f6 f7)))))))
  clear hT hmk f1 f2 f3 f4 f5 f6 f7
  go_enter Tryd.func11, Tryd.ntmps11
  go_wp2_with fail
  refine G.out.2.1.mono ?_
  rintro e w1 ⟨rfl, hb⟩
  have hb1 : Below w.heap.size w w1 := (below_alloc1 w _).trans (hb.mono (by simp))
  have H2 := Lib.hid (And.intro (hb1.alloc hb1.size (.cells #[.int .u32 (c.e : Int), .int .u8 (c.r : Int), .int .u8 (c.q : Int), .int .u8 (c.v0 : Int), .int .u8 (c.v1 : Int), .int .u8 (c.v2 : Int), .int .u8 (c.v3 : Int), .int .u8 (c.v4 : Int), .int .u8 (c.v5 : Int), .int .u8 (c.v6 : Int), .int .u8 (c.v7 : Int)] 25)) (boxS_new c w1))
  clear hb hb1
  obtain ⟨k0, k1, k2, k3, k4, k5, k6, k7, k8, k9, k10⟩ := H2.out.2
  unfold Cf.val
  go_wp2_with fail
  generalize w1.alloc (.cells #[.int .u32 (c.e : Int), .int .u8 (c.r : Int), .int .u8 (c.q : Int), .int .u8 (c.v0 : Int), .int .u8 (c.v1 : Int), .int .u8 (c.v2 : Int), .int .u8 (c.v3 : Int), .int .u8 (c.v4 : Int), .int .u8 (c.v5 : Int), .int .u8 (c.v6 : Int), .int .u8 (c.v7 : Int)] 25) = w2 at H2 k0 k1 k2 k3 k4 k5 k6 k7 k8 k9 k10 ⊢
  refine (vmay_calls c G.out.2.2.1 w2).mono ?_
  rintro e w3 ⟨rfl, hb⟩
  have H3 := Lib.hid (And.intro (H2.out.1.trans (hb.mono H2.out.1.size)) (H2.out.2.below hb))
  clear hb k0 k1 k2 k3 k4 k5 k6 k7 k8 k9 k10
  obtain ⟨k0, k1, k2, k3, k4, k5, k6, k7, k8, k9, k10⟩ := H3.out.2
  rw [G.out.2.2.2.1]
  go_wp2_with fail
  refine (vtotal_calls c G.out.2.2.1 w3).mono ?_
  rintro e w4 ⟨rfl, hb⟩
  have H4 := Lib.hid (And.intro (H3.out.1.trans (hb.mono H3.out.1.size)) (H3.out.2.below hb))
  clear hb k0 k1 k2 k3 k4 k5 k6 k7 k8 k9 k10
  obtain ⟨k0, k1, k2, k3, k4, k5, k6, k7, k8, k9, k10⟩ := H4.out.2
  rw [G.out.2.2.2.2.1]
  go_wp2_with fail
  refine (vreads_calls c G.out.2.2.1 3 (by omega) w4).mono ?_
  rintro e w5 ⟨rfl, hb⟩
  have H5 := Lib.hid (And.intro (H4.out.1.trans (hb.mono H4.out.1.size)) (H4.out.2.below hb))
  clear hb k0 k1 k2 k3 k4 k5 k6 k7 k8 k9 k10
  obtain ⟨k0, k1, k2, k3, k4, k5, k6, k7, k8, k9, k10⟩ := H5.out.2
  rw [G.out.2.2.2.2.2.1]
  go_wp2_with fail
  refine (vwrites_calls c G.out.2.2.1 4 (by omega) w5).mono ?_
  rintro e w6 ⟨rfl, hb⟩
  have H6 := Lib.hid (And.intro (H5.out.1.trans (hb.mono H5.out.1.size)) (H5.out.2.below hb))
  clear hb k0 k1 k2 k3 k4 k5 k6 k7 k8 k9 k10
  obtain ⟨k0, k1, k2, k3, k4, k5, k6, k7, k8, k9, k10⟩ := H6.out.2
  rw [G.out.2.2.2.2.2.2.1]
  go_wp2_with fail
  refine (vquorums_calls c G.out.2.2.1 2 (by omega) (by omega) w6 (tab_below G.out.1 H6.out.1 hw) (by have := H6.out.1.size; omega)).mono ?_
  rintro e w7 ⟨v, rfl, ho, hb⟩
  rw [G.out.2.2.2.2.2.2.2] at ho
  obtain ⟨A, cc, rfl, hr⟩ := own_sets ho
  have H7 := Lib.hid (And.intro (H6.out.1.trans (hb.mono H6.out.1.size)) hr)
  clear ho hr hb k0 k1 k2 k3 k4 k5 k6 k7 k8 k9 k10
  go_wp2_with fail
  refine (sets_calls A cc [3, 5, 6] (some ⟨w7.heap.size, 0, none⟩) 3 [3, 5, 6] _ (H7.out.2.below (below_alloc1 _ _)) lit_u64 (by simp)).mono ?_
  rintro e w8 ⟨rfl, hb⟩
  rw [decide_eq_true rfl]
  have H8 := Lib.hid ((H7.out.1.alloc H7.out.1.size (.cells #[.int .u64 3, .int .u64 5, .int .u64 6] 35)).trans (hb.mono (by have := H7.out.1.size; simp; omega)))
  clear hb
  go_wp2_with fail
  go_ret
  exact ⟨rfl, H8.out⟩
end Go.Proofs.YtcgbjodeklknoaaDoor.Vo
