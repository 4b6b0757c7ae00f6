/- The walk of the reference's list of a set. -/
import Derived.Test.YtbkhfkefkojdbaaDoorSetOpsWalk
namespace Go.Proofs.YtbkhfkefkojdbaaDoor.Bit
set_option linter.unusedVariables false
set_option linter.unusedSimpArgs false
open Go.RowKit
open Go.Proofs.YtbkhfkefkojdbaaDoor.Num

/-- What is in a set below k. -/
def below (s k : Nat) : List Nat := (List.range k).filter s.testBit
theorem below_succ (s k : Nat) : below s (k + 1) = below s k ++ (if s.testBit k then [k] else []) := by
  unfold below
  rw [List.range_succ, List.filter_append]
  cases h : s.testBit k <;> simp [h]
theorem below_len (s k : Nat) : (below s k).length ≤ k := by
  have := List.length_filter_le s.testBit (List.range k)
  rw [List.length_range] at this
  exact this
set_option maxRecDepth 100000 in
theorem reflist_calls (s : Nat) (hs : s < 18446744073709551616) (w : World) :
    Calls Tryd.prog 29 #[.int .u64 (s : Int)] w fun e w' => ∃ v, e = .returned v ∧ w'.ownsRow w.heap.size 3 1 v (elems s).length (ints (elems s)) ∧ Below w.heap.size w w' := by
  obtain ⟨i0, hi, hz0, hz1, hz2⟩ := info_parts info3
  have HS := Lib.hid hs
  clear hs
  go_enter Tryd.func29, Tryd.ntmps29
  go_wp2_with fail
  go_loopw [3, 4] (fun x i w' => ∃ k : Nat, k ≤ 64 ∧ i = .int .i64 (k : Int) ∧ w'.ownsRow w.heap.size 3 1 x (below s k).length (ints (below s k)) ∧ Below w.heap.size w w') (fun _ i _ => 64 - (intOf i).toNat)
  case atStart => exact ⟨0, by omega, rfl, World.ownsRow_nil _ _ _ _, Below.refl _ _⟩
  case round =>
    obtain ⟨k, hk, rfl, hown, hB⟩ := hrel
    have H := Lib.hid (And.intro hown hB)
    have hz := hB.size
    clear hown hB
    by_cases hlt : k < 64
    · have hc := refhas_calls s (k : Int) HS.out (by omega) (by omega) wr
      have hb : hasF s (k : Int) = s.testBit k := by
        unfold hasF; rw [decide_eq_true (by omega), Bool.true_and, Int.toNat_natCast]
      rw [hb] at hc
      have HC := Lib.hid hc
      clear hc hb
      go_wp2_with fail
      refine HC.out.mono ?_
      rintro e w' ⟨rfl, rfl⟩
      have hbs := below_succ s k
      cases ht : s.testBit k with
      | true =>
        rw [ht, if_pos rfl] at hbs
        have hbl := below_len s k
        have hcell : (wr.alloc (.cells #[.int .i64 (k : Int)] 3)).cell? ((⟨wr.heap.size, 0, none⟩ : Addr).add 0) = some (.int .i64 (k : Int)) := (cell_block (heap_alloc_new _ _)).trans rfl
        have HB := Lib.hid (And.intro hbs (And.intro hbl hcell))
        clear hbs hbl hcell
        go_wp2_with (at_builtin; refine wpList_append_own _ rfl (Operand.tmp 12) (Operand.tmp 14) 46 rfl w.heap.size 3 i0 (.int .i64 0) 1 8 Tryd.underlying46 hi hz0 hz1 hz2 rfl (by omega) _ (below s k).length (ints (below s k)) rfl (H.out.1.alloc _) ⟨wr.heap.size, 0, none⟩ 1 1 [.int .i64 (k : Int)] rfl rfl (fun j u hu => by match j, hu with | 0, hu => (simp at hu; rw [← hu]; exact HB.out.2.2) | j + 1, hu => simp at hu) (by simp [Value.oneCell']) (by have := HB.out.2.1; unfold maxLen; omega) (by have := HB.out.2.1; omega) (by simp; omega) ?_; intro v' w1 hown' hgrow _)
        go_round
        case rel =>
          refine ⟨k + 1, by omega, by go_num, ?_, (H.out.2.trans ((below_alloc1 wr _).mono hz)).grown hgrow (by simp; omega) (fun g hg => (World.ownsRow.lt H.out.1 g hg).1)⟩
          rw [HB.out.1, List.length_append, List.length_singleton]
          unfold ints at hown' ⊢
          rw [List.map_append]
          exact hown'
        case measure => (first | (simp [intOf]; done) | (simp [intOf]; omega))
      | false =>
        rw [ht] at hbs
        simp at hbs
        have HB := Lib.hid hbs
        clear hbs
        go_wp2_with fail
        go_round
        case rel => exact ⟨k + 1, by omega, by go_num, by rw [HB.out]; exact H.out.1, H.out.2⟩
        case measure => (first | (simp [intOf]; done) | (simp [intOf]; omega))
    · obtain rfl : k = 64 := by omega
      go_wp2_with fail
      go_ret
      exact ⟨_, rfl, H.out.1, H.out.2⟩
end Go.Proofs.YtbkhfkefkojdbaaDoor.Bit
