/- The walks of the small functions on numbers and sets, and of the law package's 'alive'. -/
import Derived.Test.YtbkhfkefkojdbaaDoorShortWalk
import Derived.Test.YtbkhfkefkojdbaaDoorSetWalk
import Derived.Test.YtbkhfkefkojdbaaDoorFoldPlain
import Derived.BigQuiet
namespace Go.Proofs.YtbkhfkefkojdbaaDoor.Bit
set_option linter.unusedVariables false
set_option linter.unusedSimpArgs false
open Go.RowKit
open Go.Proofs.YtbkhfkefkojdbaaDoor.Num

theorem fold_calls (n : Int) (h0 : -9223372036854775808 ≤ n) (h1 : n ≤ 9223372036854775807) (w : World) :
    Calls Tryd.prog 14 #[.int .i64 n] w fun e w' => e = .returned (.int .u64 (foldF n : Int)) ∧ w = w' := by
  go_enter Tryd.func14, Tryd.ntmps14
  go_wp2_with fail
  go_ret
  rw [← fold_prog n h0 h1]
  exact ⟨rfl, rfl⟩
theorem unfold_calls (n : Nat) (h1 : n < 18446744073709551616) (w : World) :
    Calls Tryd.prog 16 #[.int .u64 (n : Int)] w fun e w' => e = .returned (.int .i64 (unfoldF n)) ∧ w = w' := by
  go_enter Tryd.func16, Tryd.ntmps16
  go_wp2_with fail
  go_ret
  rw [← unfold_prog n h1]
  exact ⟨rfl, rfl⟩
/-- The bit of a node. -/
def bitN (n : Int) : Nat := if n < 0 ∨ 64 ≤ n then 0 else 2 ^ n.toNat
theorem bitN_lt (n : Int) : bitN n < 18446744073709551616 := by
  unfold bitN
  split
  · omega
  · have : 2 ^ n.toNat ≤ 2 ^ 63 := Nat.pow_le_pow_right (by decide) (by omega)
    omega
theorem bit_calls (n : Int) (h0 : -9223372036854775808 ≤ n) (h1 : n ≤ 9223372036854775807) (w : World) :
    Calls Tryd.prog 35 #[.int .i64 n] w fun e w' => e = .returned (.int .u64 (bitN n : Int)) ∧ w = w' := by
  by_cases h : n < 0 ∨ 64 ≤ n
  · have e : (bitN n : Int) = 0 := by unfold bitN; rw [if_pos h]; rfl
    rw [e]
    by_cases h2 : n < 0
    · go_enter Tryd.func35, Tryd.ntmps35
      go_wp2_with fail
      all_goals (go_ret; exact ⟨rfl, rfl⟩)
    · have h3 : 64 ≤ n := by omega
      go_enter Tryd.func35, Tryd.ntmps35
      go_wp2_with fail
      all_goals (go_ret; exact ⟨rfl, rfl⟩)
  · obtain ⟨j, rfl⟩ : ∃ j : Nat, n = (j : Int) := ⟨n.toNat, by omega⟩
    have hj : j < 64 := by omega
    have e : (bitN (j : Int) : Int) = IntKind.u64.wrap (2 ^ j) := by
      have hp : 2 ^ j ≤ 2 ^ 63 := Nat.pow_le_pow_right (by decide) (by omega)
      unfold bitN
      rw [if_neg h, Bit.wrap_u64, Int.toNat_natCast, show (2 : Int) ^ j = ((2 ^ j : Nat) : Int) from by rw [Int.natCast_pow]; rfl]
      generalize (2 : Nat) ^ j = x at hp
      omega
    rw [e]
    clear h
    go_enter Tryd.func35, Tryd.ntmps35
    go_wp2_with fail
    all_goals (go_ret; exact ⟨rfl, rfl⟩)
theorem and_bit (s : Nat) (n : Int) (hs : s < 18446744073709551616) : Go.bits .and .u64 (s : Int) (bitN n : Int) = ((s &&& bitN n : Nat) : Int) := bits_and_u64_nat s _ hs (bitN_lt n)
/-- Is it in the set? -/
def hasF (s : Nat) (n : Int) : Bool := decide (0 ≤ n ∧ n < 64) && s.testBit n.toNat
theorem has_and (s : Nat) (n : Int) : (((s &&& bitN n : Nat) : Int) != 0) = hasF s n := by
  unfold hasF bitN
  by_cases h : n < 0 ∨ 64 ≤ n
  · rw [if_pos h, Nat.and_zero, decide_eq_false (by omega)]; rfl
  · rw [if_neg h, decide_eq_true (by omega), Bool.true_and]
    cases hb : s.testBit n.toNat
    · have : s &&& 2 ^ n.toNat = 0 := by
        apply Nat.eq_of_testBit_eq
        intro i
        rw [Nat.testBit_and, Nat.testBit_two_pow, Nat.zero_testBit]
        by_cases hi : n.toNat = i
        · rw [← hi, hb]; rfl
        · rw [decide_eq_false hi, Bool.and_false]
      rw [this]; rfl
    · rw [bne_iff_ne]
      intro h0
      have h1 : s &&& 2 ^ n.toNat = 0 := by omega
      have h2 := congrArg (fun z => z.testBit n.toNat) h1
      simp [Nat.testBit_and, Nat.testBit_two_pow, hb] at h2
theorem has_calls (s : Nat) (n : Int) (hs : s < 18446744073709551616) (h0 : -9223372036854775808 ≤ n) (h1 : n ≤ 9223372036854775807) (w : World) :
    Calls Tryd.prog 22 #[.int .u64 (s : Int), .int .i64 n] w fun e w' => e = .returned (.bool (hasF s n)) ∧ w = w' := by
  have e1 := and_bit s n hs
  have e2 := has_and s n
  obtain ⟨b, hb⟩ : ∃ b, b = bitN n := ⟨_, rfl⟩
  obtain ⟨x, hx⟩ : ∃ x, x = s &&& bitN n := ⟨_, rfl⟩
  have hc := bit_calls n h0 h1 w
  rw [← hx] at e1 e2
  rw [← hb] at e1 hc
  have HC := Lib.hid (And.intro hc e2)
  clear hc e2 hx hb
  go_enter Tryd.func22, Tryd.ntmps22
  go_wp2_with fail
  refine HC.out.1.mono ?_
  rintro e w' ⟨rfl, rfl⟩
  go_wp2_with fail
  go_ret
  rw [← HC.out.2]
  exact ⟨rfl, rfl⟩

/-- Two lists of numbers: the same? -/
theorem ints_off (a a' : Option Addr) (n c n' c' : Nat) (w : World) (h : n ≠ n') :
    Calls Tryd.prog 30 #[.slice a n c, .slice a' n' c'] w fun e w' => e = .returned (.bool false) ∧ Below w.heap.size w w' := by
  have hb : ((n : Int) != (n' : Int)) = true := by rw [bne_iff_ne]; omega
  go_enter Tryd.func30, Tryd.ntmps30
  go_wp2_with fail
  go_ret
  exact ⟨rfl, Below.refl _ _⟩
/-- Numbers in memory. -/
def RowI (w : World) (a : Option Addr) (xs : List Nat) : Prop := xs = [] ∨ ∃ x, a = some x ∧ ∀ i : Nat, ∀ h : i < xs.length, w.cell? (x.add i) = some (.int .i64 (xs[i] : Int))
theorem RowI.below {w w' : World} {a : Option Addr} {xs : List Nat} (h : RowI w a xs) (hb : Below w.heap.size w w') : RowI w' a xs := by
  rcases h with h | ⟨x, rfl, h⟩
  · exact .inl h
  · exact .inr ⟨x, rfl, fun i hi => (hb.cell (World.block_lt_of_cell? w _ (h i hi))).trans (h i hi)⟩
theorem own_ints {w : World} {base : Nat} {v : Value} {xs : List Nat} (h : w.ownsRow base 3 1 v xs.length (ints xs)) : ∃ A c, v = .slice A xs.length c ∧ RowI w A xs := by
  have hc := fun g (hg : v.ownBlock = some g) => World.ownsRow.cells h hg
  rcases h.2 with ⟨rfl, hn⟩ | ⟨g, cap, cur, rfl, _⟩
  · exact ⟨none, 0, by rw [hn], .inl (List.eq_nil_of_length_eq_zero hn)⟩
  · exact ⟨_, cap, rfl, .inr ⟨_, rfl, fun i hi => hc g rfl i _ (by simp [ints, hi])⟩⟩
set_option maxRecDepth 100000 in
theorem ints_calls (a : Option Addr) (c : Nat) (xs : List Nat) (a' : Option Addr) (c' : Nat) (ys : List Nat) (w : World) (hp : RowI w a xs) (hq : RowI w a' ys) (hm : xs.length ≤ 9223372036854775807) :
    Calls Tryd.prog 30 #[.slice a xs.length c, .slice a' ys.length c'] w fun e w' => e = .returned (.bool (decide (xs = ys))) ∧ Below w.heap.size w w' := by
  by_cases hn : xs.length = ys.length
  · have hb : ((xs.length : Int) != (ys.length : Int)) = false := by rw [hn]; simp
    have G := Lib.hid (And.intro hp hq)
    clear hp hq
    go_enter Tryd.func30, Tryd.ntmps30
    go_wp2_with fail
    go_loopw [5] (fun i w' => ∃ k : Nat, k ≤ xs.length ∧ i = .int .i64 (k : Int) ∧ Below w.heap.size w w' ∧ xs.take k = ys.take k) (fun i _ => xs.length - (intOf i).toNat)
    case atStart => exact ⟨0, by omega, rfl, Below.refl _ _, rfl⟩
    case round =>
      obtain ⟨k, hk, rfl, hB, hcat⟩ := hrel
      by_cases hlt : k < xs.length
      · obtain ⟨x, rfl, hc⟩ : ∃ x, a = some x ∧ ∀ i : Nat, ∀ h : i < xs.length, wr.cell? (x.add i) = some (.int .i64 (xs[i] : Int)) := by
          rcases G.out.1.below hB with h | h
          · rw [h] at hlt; simp at hlt
          · exact h
        obtain ⟨y, rfl, hd⟩ : ∃ x, a' = some x ∧ ∀ i : Nat, ∀ h : i < ys.length, wr.cell? (x.add i) = some (.int .i64 (ys[i] : Int)) := by
          rcases G.out.2.below hB with h | h
          · exfalso; rw [hn, h] at hlt; simp at hlt
          · exact h
        have c1 := hc k hlt
        have hltq : k < ys.length := by omega
        have c2 := hd k hltq
        clear hc hd
        obtain ⟨l1, e1⟩ : ∃ l1, l1 = xs[k] := ⟨_, rfl⟩
        obtain ⟨l2, e2⟩ : ∃ l2, l2 = ys[k] := ⟨_, rfl⟩
        rw [← e1] at c1
        rw [← e2] at c2
        have HE := Lib.hid (And.intro e1 (And.intro e2 (And.intro hcat hB)))
        clear e1 e2 hcat hB
        by_cases hl : l1 = l2
        · have hq : ((l1 : Int) != (l2 : Int)) = false := by rw [hl]; simp
          have HL := Lib.hid hl
          clear hl
          go_wp2_with fail
          go_quiet (fail)
          go_wp2_with fail
          go_round
          case rel =>
            refine ⟨k + 1, by omega, by go_num, below_drewN HE.out.2.2.2 _, ?_⟩
            rw [List.take_succ_eq_append_getElem hlt, List.take_succ_eq_append_getElem hltq, HE.out.2.2.1, ← HE.out.1, ← HE.out.2.1, HL.out]
          case measure => (first | (simp [intOf]; done) | (simp [intOf]; omega))
        · have hq : ((l1 : Int) != (l2 : Int)) = true := by rw [bne_iff_ne]; omega
          have HL := Lib.hid hl
          clear hl
          go_wp2_with fail
          go_quiet (fail)
          go_wp2_with fail
          go_ret
          refine ⟨?_, below_drewN HE.out.2.2.2 _⟩
          rw [decide_eq_false]
          · rfl
          · intro h
            apply HL.out
            rw [HE.out.1, HE.out.2.1]
            exact List.getElem_of_eq h _
      · obtain rfl : k = xs.length := by omega
        have HC := Lib.hid hcat
        clear hcat
        go_wp2_with fail
        go_ret
        refine ⟨?_, hB⟩
        have h := HC.out
        rw [List.take_of_length_le (Nat.le_refl _), List.take_of_length_le (by omega)] at h
        rw [decide_eq_true h]
        rfl
  · refine (ints_off a a' xs.length c ys.length c' w hn).mono ?_
    rintro e w' ⟨rfl, hb⟩
    refine ⟨?_, hb⟩
    rw [decide_eq_false]
    intro h
    apply hn
    rw [h]
end Go.Proofs.YtbkhfkefkojdbaaDoor.Bit
