/- The walks of: may a configuration be? -/
import Derived.Test.YtcgbjodeklknoaaDoorVRef
namespace Go.Proofs.YtcgbjodeklknoaaDoor.Vo
set_option linter.unusedVariables false
set_option linter.unusedSimpArgs false
open Go.RowKit
open Go.Proofs.YtcgbjodeklknoaaDoor.Bit

/-- The most votes of a node. -/
def top (l : List Nat) : Nat := l.foldl Nat.max 0
theorem top_snoc (l : List Nat) (x : Nat) : top (l ++ [x]) = Nat.max (top l) x := by unfold top; rw [List.foldl_append]; rfl
/-- May it be? -/
def mayF (c : Cf) : Bool := decide (1 ≤ c.e ∧ c.e ≤ 2147483647 ∧ top c.V ≤ 15 ∧ 1 ≤ c.r ∧ c.r ≤ c.V.sum ∧ 1 ≤ c.q ∧ c.q ≤ c.V.sum ∧ c.V.sum < c.r + c.q ∧ c.V.sum < 2 * c.q)
/-- The greatest of eight votes, in a slice of an array. -/
theorem max_calls (b : Nat) (c : Cf) (hc : c.Ok) (w : World) (hS : BoxS b c w) :
    Calls Tryd.prog 38 #[.slice (some ⟨b, 3, none⟩) 8 8] w fun e w' => e = .returned (.int .u8 (top c.V : Int)) ∧ w = w' := by
  have hcell : ∀ k, k < 8 → w.cell? ⟨b, 3 + k, none⟩ = some (.int .u8 (c.V.getD k 0 : Int)) := by
    intro k h
    obtain ⟨_, _, _, h3, h4, h5, h6, h7, h8, h9, h10⟩ := hS
    rcases lt8 h with rfl | rfl | rfl | rfl | rfl | rfl | rfl | rfl <;> assumption
  have h0 : w.cell? ⟨b, 3, none⟩ = some (.int .u8 (c.v0 : Int)) := hcell 0 (by omega)
  have HC := Lib.hid (And.intro hcell hc)
  clear hcell hc hS
  go_enter Tryd.func38, Tryd.ntmps38
  go_wp2_with fail
  go_loop [3, 4] (fun n i => ∃ k : Nat, 1 ≤ k ∧ k ≤ 8 ∧ i = .int .i64 (k : Int) ∧ n = .int .u8 (top (c.V.take k) : Int)) (fun _ i => 8 - (intOf i).toNat)
  case atStart => exact ⟨1, by omega, by omega, rfl, by simp [Cf.V, top]⟩
  case round =>
    obtain ⟨k, hk1, hk, rfl, rfl⟩ := hrel
    by_cases hlt : k < 8
    · have hcell := HC.out.1 k hlt
      have hof := top_snoc (c.V.take k) (c.V.getD k 0)
      rw [← take_next c.V k hlt] at hof
      have hvl := HC.out.2.get k
      obtain ⟨n, hn⟩ : ∃ n, n = top (c.V.take k) := ⟨_, rfl⟩
      obtain ⟨v, hv⟩ : ∃ v, v = c.V.getD k 0 := ⟨_, rfl⟩
      rw [← hn] at hof ⊢
      rw [← hv] at hcell hof hvl
      have HO := Lib.hid hof
      clear hn hv hof
      go_wp2_with fail
      go_round
      case rel =>
        refine ⟨k + 1, by omega, by omega, by go_num, ?_⟩
        rw [HO.out, show n.max v = if n ≤ v then v else n from rfl]
        by_cases h : n < v
        · rw [if_pos h, if_pos (by omega)]
        · rw [if_neg h]
          by_cases h2 : n ≤ v
          · rw [if_pos h2, show n = v from by omega]
          · rw [if_neg h2]
      case measure => (first | (simp [intOf]; done) | (simp [intOf]; omega))
    · obtain rfl : k = 8 := by omega
      go_wp2_with fail
      go_ret
      exact ⟨rfl, rfl⟩
theorem may1_calls (n a g : Nat) (w : World) (hg : w.cell? ⟨g, 0, none⟩ = some (.int .i64 (a : Int))) (hn : n < 256) :
    Calls Tryd.prog 37 #[.int .u8 (n : Int), .pointer (some ⟨g, 0, none⟩)] w fun e w' => e = .returned (.bool (decide (1 ≤ n ∧ n ≤ a))) ∧ w = w' := by
  by_cases h1 : 1 ≤ n
  · go_enter Tryd.func37, Tryd.ntmps37
    go_wp2_with fail
    go_ret
    refine ⟨?_, rfl⟩
    simp [h1]
  · go_enter Tryd.func37, Tryd.ntmps37
    go_wp2_with fail
    go_ret
    refine ⟨?_, rfl⟩
    simp [h1]
theorem vmay_calls (c : Cf) (hc : c.Ok) (w : World) :
    Calls Tryd.prog 14 #[c.val] w fun e w' => e = .returned (.bool (mayF c)) ∧ Below w.heap.size w w' := by
  have ht := vtotal_calls c hc (w.alloc (.cells #[.int .u32 (c.e : Int), .int .u8 (c.r : Int), .int .u8 (c.q : Int), .int .u8 (c.v0 : Int), .int .u8 (c.v1 : Int), .int .u8 (c.v2 : Int), .int .u8 (c.v3 : Int), .int .u8 (c.v4 : Int), .int .u8 (c.v5 : Int), .int .u8 (c.v6 : Int), .int .u8 (c.v7 : Int)] 25))
  have hsum := sum_le c.V hc.v
  rw [Cf.len] at hsum
  have hr := hc.r
  have hq := hc.q
  have he := hc.e
  have hm0 : ∀ S T, S = c.V.sum → T = top c.V → mayF c = decide (1 ≤ c.e ∧ c.e ≤ 2147483647 ∧ T ≤ 15 ∧ 1 ≤ c.r ∧ c.r ≤ S ∧ 1 ≤ c.q ∧ c.q ≤ S ∧ S < c.r + c.q ∧ S < 2 * c.q) := by
    rintro S T rfl rfl; rfl
  obtain ⟨S, hS⟩ : ∃ S, S = c.V.sum := ⟨_, rfl⟩
  obtain ⟨T, hT⟩ : ∃ T, T = top c.V := ⟨_, rfl⟩
  have hm := hm0 S T hS hT
  obtain ⟨m, hmm⟩ : ∃ m, m = mayF c := ⟨_, rfl⟩
  rw [← hmm] at hm ⊢
  have HM := Lib.hid hm
  rw [← hS] at hsum ht
  have HB := Lib.hid (And.intro (below_box c w) (And.intro hc (And.intro ht (And.intro (boxS_new c w) hT))))
  clear hc ht hS hT hm hmm hm0
  unfold Cf.val
  go_enter Tryd.func14, Tryd.ntmps14
  go_wp2_with fail
  generalize w.alloc (.cells #[.int .u32 (c.e : Int), .int .u8 (c.r : Int), .int .u8 (c.q : Int), .int .u8 (c.v0 : Int), .int .u8 (c.v1 : Int), .int .u8 (c.v2 : Int), .int .u8 (c.v3 : Int), .int .u8 (c.v4 : Int), .int .u8 (c.v5 : Int), .int .u8 (c.v6 : Int), .int .u8 (c.v7 : Int)] 25) = w1 at HB ⊢
  refine HB.out.2.2.1.mono ?_
  rintro e w2 ⟨rfl, hb⟩
  have hb2 := HB.out.1.trans (hb.mono HB.out.1.size)
  have hS2 := HB.out.2.2.2.1.below hb
  clear hb
  have hS3 : BoxS w.heap.size c (w2.alloc (.cells #[.int .i64 (S : Int)] 3)) := hS2.below (below_alloc1 _ _)
  have hmax := max_calls w.heap.size c HB.out.2.1 _ hS3
  rw [← HB.out.2.2.2.2] at hmax
  have hg : (w2.alloc (.cells #[.int .i64 (S : Int)] 3)).cell? ⟨w2.heap.size, 0, none⟩ = some (.int .i64 (S : Int)) := by
    have := cell_block (i := 0) (heap_alloc_new w2 (.cells #[.int .i64 (S : Int)] 3))
    simp
  have hb3 : Below w.heap.size w (w2.alloc (.cells #[.int .i64 (S : Int)] 3)) := hb2.alloc hb2.size _
  have H2 := Lib.hid (And.intro hb3 (And.intro hmax (And.intro (may1_calls c.r S w2.heap.size _ hg hr) (may1_calls c.q S w2.heap.size _ hg hq))))
  clear hb2 hS2 hb3 hmax
  obtain ⟨k0, k1, k2, k3, k4, k5, k6, k7, k8, k9, k10⟩ := hS3
  clear k3 k4 k5 k6 k7 k8 k9 k10
  go_wp2_with fail
  all_goals first | (go_ret; refine ⟨?_, H2.out.1⟩; rw [HM.out]; first | (rw [decide_eq_false (by omega)]; rfl) | (rw [decide_eq_true (by omega)]; rfl)) | skip
  refine H2.out.2.1.mono ?_
  rintro e w' ⟨rfl, rfl⟩
  go_wp2_with fail
  all_goals first | (go_ret; refine ⟨?_, H2.out.1⟩; rw [HM.out]; first | (rw [decide_eq_false (by omega)]; rfl) | (rw [decide_eq_true (by omega)]; rfl)) | skip
  refine H2.out.2.2.1.mono ?_
  rintro e w' ⟨rfl, rfl⟩
  by_cases p3 : 1 ≤ c.r ∧ c.r ≤ S
  · rw [decide_eq_true p3]
    go_wp2_with fail
    refine H2.out.2.2.2.mono ?_
    rintro e w' ⟨rfl, rfl⟩
    by_cases p4 : 1 ≤ c.q ∧ c.q ≤ S
    · rw [decide_eq_true p4]
      by_cases p6 : S < 2 * c.q
      · have d6 : decide ((S : Int) < 2 * (c.q : Int)) = true := decide_eq_true (by omega)
        go_wp2_with fail
        all_goals (go_ret; refine ⟨?_, H2.out.1⟩; rw [HM.out]; first | (rw [decide_eq_false (by omega)]; rfl) | (rw [decide_eq_true (by omega)]; rfl))
      · have d6 : decide ((S : Int) < 2 * (c.q : Int)) = false := decide_eq_false (by omega)
        go_wp2_with fail
        all_goals (go_ret; refine ⟨?_, H2.out.1⟩; rw [HM.out]; first | (rw [decide_eq_false (by omega)]; rfl) | (rw [decide_eq_true (by omega)]; rfl))
    · rw [decide_eq_false p4]
      go_wp2_with fail
      all_goals (go_ret; refine ⟨?_, H2.out.1⟩; rw [HM.out]; first | (rw [decide_eq_false (by omega)]; rfl) | (rw [decide_eq_true (by omega)]; rfl))
  · rw [decide_eq_false p3]
    go_wp2_with fail
    all_goals (go_ret; refine ⟨?_, H2.out.1⟩; rw [HM.out]; first | (rw [decide_eq_false (by omega)]; rfl) | (rw [decide_eq_true (by omega)]; rfl))
end Go.Proofs.YtcgbjodeklknoaaDoor.Vo
