/- The walks of slices.Clone of bytes, of short numbers and long ones. -/
import Derived.Test.YtinilglljjffjaaProg
import Derived.Test.YtinilglljjffjaaApp
import Derived.Test.YtinilglljjffjaaNumPlain
import Derived.Test.YtinilglljjffjaaShortPlain
import Derived.Lib.SliceRun
import Derived.Lib.Hide
namespace Go.Proofs.Ytinilglljjffjaa.Num
set_option linter.unusedVariables false
set_option linter.unusedSimpArgs false
open Go.RowKit
theorem info8 : (Try.prog.info? 5).map (fun i => (i.zero, i.size, i.bytes)) = some (some (.int .u8 0), 1, 1) := by kernel_rfl
theorem own_empty {w : World} {T : TypeId} : Own8 (w.alloc (.cells #[] T)) w.heap.size T (.slice (some ⟨w.heap.size, 0, none⟩) 0 0) [] :=
  ⟨rfl, .inr ⟨w.heap.size, 0, #[], rfl, Nat.le_refl _, heap_alloc_new _ _, Nat.le_refl _, by unfold maxLen; omega, rfl, rfl⟩⟩
/-- slices.Clone: nil of nil; else new bytes. -/
theorem clone_calls (a : Option Addr) (c : Nat) (l : List UInt8) (w : World) (hr : Row8 w a l) (hn : a = none → c = 0) (hlen : l.length ≤ 140737488355328) :
    Calls Try.prog 36 #[.slice a l.length c] w fun e w' => ∃ v, e = .returned v ∧ Own8 w' w.heap.size 5 v l ∧ Below w.heap.size w w' := by
  have qT := fun (w : World) (a : Option Addr) (n c n' c' : Nat) => Lib.run_eql_slice_nil w 25 5 a n c n' c' Try.underlying25
  cases a with
  | none =>
    have hl : l = [] := by
      rcases hr with h | ⟨x, hx, _⟩
      · exact h
      · simp at hx
    subst hl
    clear hr hn hlen
    go_enter Try.func36, Try.ntmps36
    go_wp2_with fail
    go_ret
    exact ⟨_, rfl, Own8.nil _ _ _, Below.refl _ _⟩
  | some x =>
    have hb := hr.below (below_alloc1 w (.cells #[] 5))
    have G := Lib.hid (And.intro hb hlen)
    clear hr hn hlen hb
    go_enter Try.func36, Try.ntmps36
    go_wp2_with (at_builtin; refine wpList_append8 rfl _ _ 25 rfl w.heap.size 5 Try.underlying25 info8 (.slice (some ⟨w.heap.size, 0, none⟩) 0 0) [] l (some x) c rfl own_empty rfl G.out.1 (fun h => by cases h) (by have := G.out.2; simp; omega) (by simp) ?_; intro v' w1 hown hgrow; rw [List.nil_append] at hown)
    go_ret
    refine ⟨_, rfl, hown, (below_alloc1 w _).grown hgrow (by simp) (fun k hk => ?_)⟩
    simp [Value.ownBlock] at hk
    omega
theorem size8 : ∀ w, (sizeOf (Try.prog.elem 25)).run Try.prog w = .ok 1 w := fun w => by kernel_rfl
end Go.Proofs.Ytinilglljjffjaa.Num
namespace Go.Proofs.Ytinilglljjffjaa.Num
set_option linter.unusedVariables false
set_option linter.unusedSimpArgs false
open Go.RowKit

theorem dig_room (n : Nat) (hn : n < 18446744073709551616) : n < 128 ^ 10 := Nat.lt_of_lt_of_le hn (by decide)
theorem dig_stop (f n : Nat) (hn : n < 128) : dig (f + 1) n = [UInt8.ofNat n] := by rw [dig, if_pos hn]
theorem dig_more (f n : Nat) (hn : ¬ n < 128) : dig (f + 1) n = UInt8.ofNat (n % 128 + 128) :: dig f (n / 128) := by rw [dig, if_neg hn]
theorem byte_of (n : Nat) (hn : n < 128) : (n : Int) % 256 = ((UInt8.ofNat n).toNat : Int) := by rw [UInt8.toNat_ofNat']; omega

set_option maxRecDepth 100000 in
theorem short_calls (a : Option Addr) (c : Nat) (l : List UInt8) (n : Nat) (w : World) (hr : Row8 w a l) (hc0 : a = none → c = 0) (hlen : l.length ≤ 140737488355000) (hn : n < 18446744073709551616) :
    Calls Try.prog 54 #[.slice a l.length c, .int .u64 (n : Int)] w fun e w' => ∃ v, e = .returned v ∧ Own8 w' w.heap.size 5 v (l ++ short n) ∧ Below w.heap.size w w' := by
  have G := Lib.hid (And.intro hr (And.intro hc0 (And.intro hlen hn)))
  clear hr hc0 hlen
  go_enter Try.func54, Try.ntmps54
  go_wp2_with fail
  refine (clone_calls a c l _ G.out.1 G.out.2.1 (by have := G.out.2.2.1; omega)).mono ?_
  rintro e w1 ⟨v, rfl, hown, hb⟩
  go_wp2_with fail
  go_loopw [1, 5] (fun i x w' => ∃ (f r : Nat) (L : List UInt8), i = .int .u64 (r : Int) ∧ r < 18446744073709551616 ∧ r < 128 ^ (f + 1) ∧ f ≤ 9 ∧ Own8 w' w.heap.size 5 x L ∧ L ++ dig (f + 1) r = l ++ short n ∧ L.length + f = l.length + 9 ∧ Below w.heap.size w w') (fun i _ _ => (intOf i).toNat)
  case atStart => exact ⟨9, n, l, rfl, hn, dig_room n hn, by omega, hown, rfl, rfl, hb⟩
  case round =>
    obtain ⟨f, r, L, rfl, hr64, hrf, hf9, hL, hcat, hsum, hB⟩ := hrel
    have H := Lib.hid (And.intro hcat (And.intro hsum (And.intro hL (And.intro hB hrf))))
    have hz := hB.size
    clear hcat hsum hL hB hrf
    by_cases h : r < 128
    · have e1 : (r : Int) = ((UInt8.ofNat r).toNat : Int) := by rw [UInt8.toNat_ofNat']; omega
      have hL2 := H.out.2.2.1.below (below_alloc1 wr (.cells #[.int .u8 (r : Int)] 5))
      have hR2 : Row8 (wr.alloc (.cells #[.int .u8 (r : Int)] 5)) (some ⟨wr.heap.size, 0, none⟩) [UInt8.ofNat r] := Row8.lit (heap_alloc_new _ _) (by rw [e1]; rfl)
      have K2 := Lib.hid (And.intro hL2 (And.intro hR2 (And.intro (show L.length + [UInt8.ofNat r].length ≤ 140737488355328 from by have := H.out.2.1; have := G.out.2.2.1; simp; omega) h)))
      clear hL2 hR2 e1
      go_wp2_with (at_builtin; refine wpList_append8 rfl _ _ 25 rfl w.heap.size 5 Try.underlying25 info8 _ L [UInt8.ofNat r] (some ⟨wr.heap.size, 0, none⟩) 1 rfl K2.out.1 rfl K2.out.2.1 (fun h => by cases h) K2.out.2.2.1 (by simp; omega) ?_; intro v' w2 hown2 hgrow2)
      go_ret
      refine ⟨_, rfl, ?_, grown_below (H.out.2.2.2.1.trans ((below_alloc1 wr _).mono hz)) (by simp; omega) K2.out.1 (Nat.le_refl _) hgrow2⟩
      have := H.out.1
      rw [dig_stop f r K2.out.2.2.2] at this
      rw [← this]
      exact hown2
    · have e2 := or128 r
      have hL2 := H.out.2.2.1.below (below_alloc1 wr (.cells #[.int .u8 ((UInt8.ofNat (r % 128 + 128)).toNat : Int)] 5))
      have hR2 : Row8 (wr.alloc (.cells #[.int .u8 ((UInt8.ofNat (r % 128 + 128)).toNat : Int)] 5)) (some ⟨wr.heap.size, 0, none⟩) [UInt8.ofNat (r % 128 + 128)] := Row8.lit (heap_alloc_new _ _) rfl
      have K2 := Lib.hid (And.intro hL2 (And.intro hR2 (And.intro (show L.length + [UInt8.ofNat (r % 128 + 128)].length ≤ 140737488355328 from by have := H.out.2.1; have := G.out.2.2.1; simp; omega) h)))
      clear hL2 hR2
      go_wp2_with (at_builtin; refine wpList_append8 rfl _ _ 25 rfl w.heap.size 5 Try.underlying25 info8 _ L [UInt8.ofNat (r % 128 + 128)] (some ⟨wr.heap.size, 0, none⟩) 1 rfl K2.out.1 rfl K2.out.2.1 (fun h => by cases h) K2.out.2.2.1 (by simp; omega) ?_; intro v' w2 hown2 hgrow2)
      have e3 : ((r : Int) % 128 + 128) % 256 = ((UInt8.ofNat (r % 128 + 128)).toNat : Int) := by rw [UInt8.toNat_ofNat']; omega
      rw [e3] at hgrow2
      have hrf := H.out.2.2.2.2
      cases f with
      | zero => exfalso; rw [Nat.pow_one] at hrf; omega
      | succ f =>
        refine ⟨⟨f, r / 128, L ++ [UInt8.ofNat (r % 128 + 128)], rfl, by omega, ?_, by omega, hown2, ?_, ?_, grown_below (H.out.2.2.2.1.trans ((below_alloc1 wr _).mono hz)) (by simp; omega) K2.out.1 (Nat.le_refl _) hgrow2⟩, ?_⟩
        · rw [Nat.pow_succ] at hrf
          exact Nat.div_lt_of_lt_mul (by rw [Nat.mul_comm]; exact hrf)
        · have := H.out.1
          rw [dig_more (f + 1) r K2.out.2.2.2] at this
          rw [← this, List.append_assoc]
          rfl
        · rw [List.length_append, List.length_singleton]
          have := H.out.2.1
          omega
        · simp [intOf]; omega

theorem join_prog (n m k : Nat) (hk9 : k ≤ 9) (hn : n < 2 ^ (7 * k)) (hm : m < 128) (h9 : k ≤ 8 ∨ m ≤ 1) :
    Go.bits .or .u64 (n : Int) (IntKind.u64.wrap ((m : Int) * 2 ^ (7 * k))) = ((n + m * 2 ^ (7 * k) : Nat) : Int) ∧ n + m * 2 ^ (7 * k) < 18446744073709551616 ∧ (k ≤ 8 → n + m * 2 ^ (7 * k) < 2 ^ (7 * (k + 1))) := by
  have h1 : k ≤ 8 → n + m * 2 ^ (7 * k) < 2 ^ (7 * (k + 1)) := by
    intro _
    rw [pow_step]
    have : (m + 1) * 2 ^ (7 * k) ≤ 128 * 2 ^ (7 * k) := Nat.mul_le_mul_right _ (by omega)
    rw [Nat.add_mul] at this
    omega
  have h2 : n + m * 2 ^ (7 * k) < 18446744073709551616 := by
    rcases Nat.lt_or_ge k 9 with h | h
    · have h3 := h1 (by omega)
      have h4 : 2 ^ (7 * (k + 1)) ≤ 2 ^ 63 := Nat.pow_le_pow_right (by decide) (by omega)
      omega
    · have : k = 9 := by omega
      subst this
      simp at hn ⊢
      omega
  refine ⟨?_, h2, h1⟩
  have e : IntKind.u64.wrap ((m : Int) * 2 ^ (7 * k)) = ((m * 2 ^ (7 * k) : Nat) : Int) := by
    rw [wrap_u64, show (m : Int) * 2 ^ (7 * k) = ((m * 2 ^ (7 * k) : Nat) : Int) from by rw [Int.natCast_mul, Int.natCast_pow]; rfl]
    omega
  rw [e, bits_or_u64_nat n _ (by omega) (by omega)]
  have := Nat.two_pow_add_eq_or_of_lt hn m
  rw [Nat.or_comm, Nat.mul_comm m, ← this]
  congr 1
  omega
set_option maxRecDepth 100000 in
theorem long_calls (a : Option Addr) (c : Nat) (l : List UInt8) (w : World) (hr : Row8 w a l) (hm : l.length ≤ 9223372036854775807) :
    Calls Try.prog 58 #[.slice a l.length c] w fun e w' => e = .returned (.tuple #[.int .u64 ((long l).1 : Int), .int .i64 ((long l).2.1 : Int), .int .i64 ((long l).2.2 : Int)]) ∧ w = w' := by
  have G := Lib.hid hr
  clear hr
  go_enter Try.func58, Try.ntmps58
  go_wp2_with fail
  go_loop [5, 10] (fun x i => ∃ (k n : Nat), k ≤ l.length ∧ k ≤ 9 ∧ i = .int .i64 (k : Int) ∧ x = .int .u64 (n : Int) ∧ n < 2 ^ (7 * k) ∧ long l = longG k n (l.drop k)) (fun _ i => l.length - (intOf i).toNat)
  case atStart => exact ⟨0, 0, by omega, by omega, rfl, rfl, by simp, rfl⟩
  case round =>
    obtain ⟨k, n, hk, hk9, rfl, rfl, hn, hlong⟩ := hrel
    have H := Lib.hid (And.intro hn hlong)
    clear hn hlong
    by_cases hlt : k < l.length
    · obtain ⟨x, rfl, hcell⟩ : ∃ x, a = some x ∧ ∀ i : Nat, ∀ h : i < l.length, w.cell? (x.add i) = some (.int .u8 (l[i].toNat : Int)) := by
        rcases G.out with rfl | h
        · simp at hlt
        · exact h
      have hck := hcell k hlt
      have hd : l.drop k = l[k] :: l.drop (k + 1) := List.drop_eq_getElem_cons hlt
      obtain ⟨y, hy⟩ : ∃ y, y = l[k] := ⟨_, rfl⟩
      rw [← hy] at hck hd
      have hlong := H.out.2
      rw [hd, longG] at hlong
      have hy8 := y.toNat_lt
      by_cases h9 : 9 ≤ k ∧ 1 < y.toNat
      · rw [if_pos h9] at hlong
        have HL := Lib.hid hlong
        have h91 := h9.1
        have h92 := h9.2
        clear hlong hd hcell h9 hy
        go_wp2_with fail
        all_goals (first | (go_ret3; rw [HL.out]; exact ⟨rfl, rfl⟩) | (exfalso; rw [Bool.and_eq_false_iff, decide_eq_false_iff_not, decide_eq_false_iff_not] at h9b; omega))
      · rw [if_neg h9] at hlong
        have h9' : k ≤ 8 ∨ y.toNat ≤ 1 := by omega
        obtain ⟨m, hm⟩ : ∃ m, m = y.toNat % 128 := ⟨_, rfl⟩
        have N1 := not128 y
        rw [← hm] at N1 hlong
        obtain ⟨N, hN⟩ : ∃ N, N = n + m * 2 ^ (7 * k) := ⟨_, rfl⟩
        obtain ⟨X, hN64, hNk⟩ := join_prog n m k hk9 H.out.1 (by omega) (by omega)
        rw [← hN] at X hlong hNk hN64
        have W1 : IntKind.u64.wrap (m : Int) = (m : Int) := by rw [wrap_u64]; omega
        have h9b : (decide (57 < (k : Int) * 7) && decide (1 < (y.toNat : Int))) = false := by
          rw [Bool.and_eq_false_iff, decide_eq_false_iff_not, decide_eq_false_iff_not]
          omega
        by_cases h128 : 128 ≤ y.toNat
        · rw [if_pos h128] at hlong
          have HL := Lib.hid (And.intro hlong hNk)
          have hk8 : k ≤ 8 := by omega
          clear hlong hd hcell h9 h9' hm hN hy hNk hN64
          go_wp2_with fail
          all_goals (go_round; (case rel => exact ⟨k + 1, N, by omega, by omega, by go_num, rfl, HL.out.2 hk8, HL.out.1⟩); (case measure => (first | (simp [intOf]; done) | (simp [intOf]; omega))))
        · rw [if_neg h128] at hlong
          by_cases h0 : y.toNat = 0
          · have hy0 : ((y.toNat : Int) == 0) = true := by rw [h0]; rfl
            by_cases hk0 : 0 < k
            · rw [if_pos ⟨h0, hk0⟩] at hlong
              have HL := Lib.hid hlong
              clear hlong hd hcell h9 h9' hm hN hy hNk hN64 h0
              go_wp2_with fail
              all_goals (first | (go_ret3; rw [HL.out]; exact ⟨rfl, rfl⟩) | (exfalso; rw [Bool.and_eq_false_iff, decide_eq_false_iff_not, decide_eq_false_iff_not] at h9b; omega))
            · rw [if_neg (fun h => hk0 h.2)] at hlong
              have HL := Lib.hid hlong
              clear hlong hd hcell h9 h9' hm hN hy hNk hN64 h0
              go_wp2_with fail
              all_goals (first | (go_ret3; rw [HL.out]; exact ⟨rfl, rfl⟩) | (exfalso; rw [Bool.and_eq_false_iff, decide_eq_false_iff_not, decide_eq_false_iff_not] at h9b; omega))
          · have hy0 : ((y.toNat : Int) == 0) = false := by rw [beq_eq_false_iff_ne]; omega
            rw [if_neg (fun h => h0 h.1)] at hlong
            have HL := Lib.hid hlong
            clear hlong hd hcell h9 h9' hm hN hy hNk hN64 h0
            go_wp2_with fail
            all_goals (first | (go_ret3; rw [HL.out]; exact ⟨rfl, rfl⟩) | (exfalso; rw [Bool.and_eq_false_iff, decide_eq_false_iff_not, decide_eq_false_iff_not] at h9b; omega))
    · obtain rfl : k = l.length := by omega
      go_wp2_with fail
      go_ret3
      have := H.out.2
      rw [List.drop_length] at this
      rw [this]
      exact ⟨rfl, rfl⟩
end Go.Proofs.Ytinilglljjffjaa.Num
