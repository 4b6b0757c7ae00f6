/- The walks of slices.Clone of bytes and of numbers as bytes: the program's Put and Get, the reference's, and its comparison. -/
import Derived.Test.YtbkhfkefkojdbaaDoorProg
import Derived.Test.YtbkhfkefkojdbaaDoorApp
import Derived.Test.YtbkhfkefkojdbaaDoorNumPlain
import Derived.Lib.SliceRun
import Derived.Lib.Hide
namespace Go.Proofs.YtbkhfkefkojdbaaDoor.Num
set_option linter.unusedVariables false
set_option linter.unusedSimpArgs false
open Go.RowKit

theorem info8 : (Tryd.prog.info? 5).map (fun i => (i.zero, i.size, i.bytes)) = some (some (.int .u8 0), 1, 1) := by kernel_rfl

theorem own_empty {w : World} {T : TypeId} : Own8 (w.alloc (.cells #[] T)) w.heap.size T (.slice (some ⟨w.heap.size, 0, none⟩) 0 0) [] :=
  ⟨rfl, .inr ⟨w.heap.size, 0, #[], rfl, Nat.le_refl _, heap_alloc_new _ _, Nat.le_refl _, by unfold maxLen; omega, rfl, rfl⟩⟩

/-- slices.Clone: nil of nil; else new bytes. -/
theorem clone_calls (a : Option Addr) (c : Nat) (l : List UInt8) (w : World) (hr : Row8 w a l) (hn : a = none → c = 0) (hlen : l.length ≤ 140737488355328) :
    Calls Tryd.prog 32 #[.slice a l.length c] w fun e w' => ∃ v, e = .returned v ∧ Own8 w' w.heap.size 5 v l ∧ Below w.heap.size w w' := by
  have qT := fun (w : World) (a : Option Addr) (n c n' c' : Nat) => Lib.run_eql_slice_nil w 22 5 a n c n' c' Tryd.underlying22
  cases a with
  | none =>
    have hl : l = [] := by
      rcases hr with h | ⟨x, hx, _⟩
      · exact h
      · simp at hx
    subst hl
    clear hr hn hlen
    go_enter Tryd.func32, Tryd.ntmps32
    go_wp2_with fail
    go_ret
    exact ⟨_, rfl, Own8.nil _ _ _, Below.refl _ _⟩
  | some x =>
    have hb := hr.below (below_alloc1 w (.cells #[] 5))
    have G := Lib.hid (And.intro hb hlen)
    clear hr hn hlen hb
    go_enter Tryd.func32, Tryd.ntmps32
    go_wp2_with (at_builtin; refine wpList_append8 rfl _ _ 22 rfl w.heap.size 5 Tryd.underlying22 info8 (.slice (some ⟨w.heap.size, 0, none⟩) 0 0) [] l (some x) c rfl own_empty rfl G.out.1 (fun h => by cases h) (by have := G.out.2; simp; omega) (by simp) ?_; intro v' w1 hown hgrow; rw [List.nil_append] at hown)
    go_ret
    refine ⟨_, rfl, hown, (below_alloc1 w _).grown hgrow (by simp) (fun k hk => ?_)⟩
    simp [Value.ownBlock] at hk
    omega

set_option maxRecDepth 100000 in
theorem put_calls (a : Option Addr) (c : Nat) (l : List UInt8) (n k : Nat) (w : World) (hr : Row8 w a l) (hn : a = none → c = 0) (hlen : l.length ≤ 140737488355000) (hk : k ≤ 8) :
    Calls Tryd.prog 21 #[.slice a l.length c, .int .u64 (n : Int), .int .i64 (k : Int)] w fun e w' => ∃ v, e = .returned v ∧ Own8 w' w.heap.size 5 v (l ++ be k n) ∧ Below w.heap.size w w' := by
  have G := Lib.hid (And.intro hr (And.intro hn hlen))
  clear hr hn hlen
  go_enter Tryd.func21, Tryd.ntmps21
  go_wp2_with fail
  refine (clone_calls a c l _ G.out.1 G.out.2.1 (by have := G.out.2.2; omega)).mono ?_
  rintro e w1 ⟨v, rfl, hown, hb⟩
  go_wp2_with fail
  go_loopw [7, 8] (fun x i w' => ∃ (r : Nat) (L : List UInt8), r ≤ k ∧ i = .int .i64 ((r : Int) - 1) ∧ Own8 w' w.heap.size 5 x L ∧ L ++ be r n = l ++ be k n ∧ L.length + r = l.length + k ∧ Below w.heap.size w w') (fun _ i _ => (intOf i + 1).toNat)
  case atStart => exact ⟨k, l, Nat.le_refl _, rfl, hown, rfl, rfl, hb⟩
  case round =>
    obtain ⟨r, L, hrk, rfl, hL, hcat, hsum, hB⟩ := hrel
    have H := Lib.hid (And.intro hcat (And.intro hsum hL))
    clear hcat hsum
    cases r with
    | zero =>
      clear hL
      go_wp2_with fail
      go_ret
      refine ⟨_, rfl, ?_, hB⟩
      have := H.out.1
      rw [be, List.append_nil] at this
      rw [← this]
      exact H.out.2.2
    | succ r =>
      clear hL
      have hL2 := H.out.2.2.below (below_alloc1 wr (.cells #[.int .u8 ((bt n r).toNat : Int)] 5))
      have hR2 : Row8 (wr.alloc (.cells #[.int .u8 ((bt n r).toNat : Int)] 5)) (some ⟨wr.heap.size, 0, none⟩) [bt n r] := Row8.lit (heap_alloc_new _ _) rfl
      have hz := hB.size
      have hm := H.out.2.1
      have hl0 := G.out.2.2
      have K2 := Lib.hid (And.intro hL2 (And.intro hR2 (show L.length + [bt n r].length ≤ 140737488355328 from by simp; omega)))
      have e1 : ((r + 1 : Nat) : Int) - 1 = (r : Int) := by omega
      rw [e1]
      have e2 := bt_val n r
      clear hL2 hR2 hm hl0 e1
      go_wp2_with (at_builtin; refine wpList_append8 rfl _ _ 22 rfl w.heap.size 5 Tryd.underlying22 info8 _ L [bt n r] (some ⟨wr.heap.size, 0, none⟩) 1 rfl K2.out.1 rfl K2.out.2.1 (fun h => by cases h) K2.out.2.2 (by simp; omega) ?_; intro v' w2 hown2 hgrow2)
      clear e2
      go_roundw
      case rel => exact ⟨r, L ++ [bt n r], by omega, by go_num, hown2, by have := H.out.1; rw [be] at this; simpa using this, by have := H.out.2.1; simp; omega, grown_below ((below_alloc1 wr _).mono hB.size |> fun h => hB.trans h) (by simp; omega) K2.out.1 (Nat.le_refl _) hgrow2⟩
      case measure => (first | (simp [intOf]; done) | (simp [intOf]; omega))

/-- The reference's 2 to the n. -/
theorem power_calls (n : Nat) (hn : n ≤ 63) (w : World) :
    Calls Tryd.prog 34 #[.int .i64 (n : Int)] w fun e w' => e = .returned (.int .u64 ((2 ^ n : Nat) : Int)) ∧ w = w' := by
  have H := Lib.hid hn
  clear hn
  go_enter Tryd.func34, Tryd.ntmps34
  go_wp2_with fail
  go_loop [3, 4] (fun x i => ∃ k : Nat, k ≤ n ∧ i = .int .i64 (k : Int) ∧ x = .int .u64 ((2 ^ k : Nat) : Int)) (fun _ i => n - (intOf i).toNat)
  case atStart => exact ⟨0, by omega, rfl, rfl⟩
  case round =>
    obtain ⟨k, hk, rfl, rfl⟩ := hrel
    by_cases hlt : k < n
    · have e := Lib.hid (pow_next k (by have := H.out; omega))
      have hb : k + 1 ≤ 64 := by have := H.out; omega
      go_wp2_with fail
      go_round
      case rel => exact ⟨k + 1, by omega, by go_num, by rw [← e.out]; rfl⟩
      case measure => (first | (simp [intOf]; done) | (simp [intOf]; omega))
    · obtain rfl : k = n := by omega
      go_wp2_with fail
      go_ret
      exact ⟨rfl, rfl⟩

end Go.Proofs.YtbkhfkefkojdbaaDoor.Num
