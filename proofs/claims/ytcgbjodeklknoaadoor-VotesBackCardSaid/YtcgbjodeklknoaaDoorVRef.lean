/- The walks of the reference's votes of a set, and of who votes. -/
import Derived.Test.YtcgbjodeklknoaaDoorVOf
namespace Go.Proofs.YtcgbjodeklknoaaDoor.Vo
set_option linter.unusedVariables false
set_option linter.unusedSimpArgs false
open Go.RowKit
open Go.Proofs.YtcgbjodeklknoaaDoor.Bit

theorem cell_vote (c : Cf) (w : World) (k : Nat) (h : k < 8) : (w.alloc (.cells #[.int .u32 (c.e : Int), .int .u8 (c.r : Int), .int .u8 (c.q : Int), .int .u8 (c.v0 : Int), .int .u8 (c.v1 : Int), .int .u8 (c.v2 : Int), .int .u8 (c.v3 : Int), .int .u8 (c.v4 : Int), .int .u8 (c.v5 : Int), .int .u8 (c.v6 : Int), .int .u8 (c.v7 : Int)] 25)).cell? ⟨w.heap.size, 3 + k, none⟩ = some (.int .u8 (c.V.getD k 0 : Int)) := by
  obtain ⟨_, _, _, h3, h4, h5, h6, h7, h8, h9, h10⟩ := boxS_new c w
  rcases lt8 h with rfl | rfl | rfl | rfl | rfl | rfl | rfl | rfl <;> assumption

theorem rof_calls (c : Cf) (hc : c.Ok) (s : Nat) (hs : s < 18446744073709551616) (w : World) :
    Calls Tryd.prog 16 #[c.val, .int .u64 (s : Int)] w fun e w' => e = .returned (.int .i64 (of c.V s : Int)) ∧ Below w.heap.size w w' := by
  have HB := Lib.hid (And.intro (below_box c w) hc)
  clear hc
  have hcell := fun k h => cell_vote c w k h
  have HC := Lib.hid hcell
  clear hcell
  unfold Cf.val
  go_enter Tryd.func16, Tryd.ntmps16
  go_wp2_with fail
  generalize w.alloc (.cells #[.int .u32 (c.e : Int), .int .u8 (c.r : Int), .int .u8 (c.q : Int), .int .u8 (c.v0 : Int), .int .u8 (c.v1 : Int), .int .u8 (c.v2 : Int), .int .u8 (c.v3 : Int), .int .u8 (c.v4 : Int), .int .u8 (c.v5 : Int), .int .u8 (c.v6 : Int), .int .u8 (c.v7 : Int)] 25) = w1 at HB HC ⊢
  go_loop [5, 6] (fun n i => ∃ k : Nat, k ≤ 8 ∧ i = .int .i64 (k : Int) ∧ n = .int .i64 (of (c.V.take k) s : Int)) (fun _ i => 8 - (intOf i).toNat)
  case atStart => exact ⟨0, by omega, rfl, rfl⟩
  case round =>
    obtain ⟨k, hk, rfl, rfl⟩ := hrel
    by_cases hlt : k < 8
    · have hcell := HC.out k hlt
      have hof := of_append (c.V.take k) (c.V.getD k 0) s
      rw [← take_next c.V k hlt] at hof
      have hle := of_le (c.V.take k) (fun x hx => HB.out.2.v x (List.take_subset _ _ hx)) s
      have hl8 : (c.V.take k).length = k := by rw [List.length_take, Cf.len]; omega
      rw [hl8] at hof hle
      have hvl := HB.out.2.get k
      obtain ⟨n, hn⟩ : ∃ n, n = of (c.V.take k) s := ⟨_, rfl⟩
      obtain ⟨v, hv⟩ : ∃ v, v = c.V.getD k 0 := ⟨_, rfl⟩
      rw [← hn] at hof hle ⊢
      rw [← hv] at hcell hof hvl
      have hhas := refhas_calls s (k : Int) hs (by omega) (by omega) w1
      rw [hasF_nat s k (by omega)] at hhas
      clear hn hv
      cases hb : s.testBit k with
      | true =>
        rw [hb] at hof hhas
        rw [if_pos rfl] at hof
        have hw : wrap64 ((n : Int) + (v : Int)) = ((n + v : Nat) : Int) := by unfold wrap64; omega
        have HO := Lib.hid (And.intro hof hw)
        have HH := Lib.hid hhas
        clear hof hhas hb hw
        go_wp2_with fail
        refine HH.out.mono ?_
        rintro e w' ⟨rfl, rfl⟩
        go_wp2_with fail
        go_round
        case rel => exact ⟨k + 1, by omega, by go_num, by rw [HO.out.1, Int.natCast_add]⟩
        case measure => (first | (simp [intOf]; done) | (simp [intOf]; omega))
      | false =>
        rw [hb] at hof hhas
        rw [if_neg (by decide)] at hof
        have HO := Lib.hid hof
        have HH := Lib.hid hhas
        clear hof hhas hb
        go_wp2_with fail
        refine HH.out.mono ?_
        rintro e w' ⟨rfl, rfl⟩
        go_wp2_with fail
        go_round
        case rel => exact ⟨k + 1, by omega, by go_num, by rw [HO.out]; rfl⟩
        case measure => (first | (simp [intOf]; done) | (simp [intOf]; omega))
    · obtain rfl : k = 8 := by omega
      go_wp2_with fail
      go_ret
      exact ⟨rfl, HB.out.1⟩
theorem sum_append (l : List Nat) (x : Nat) : (l ++ [x]).sum = l.sum + x := by simp
theorem sum_le (l : List Nat) (h : ∀ x ∈ l, x < 256) : l.sum ≤ 255 * l.length := by
  induction l with
  | nil => exact Nat.le_refl _
  | cons v vs ih =>
    have h1 := ih (fun x hx => h x (List.mem_cons_of_mem _ hx))
    have h2 := h v List.mem_cons_self
    simp only [List.sum_cons, List.length_cons]
    omega
theorem rtotal_calls (c : Cf) (hc : c.Ok) (w : World) :
    Calls Tryd.prog 18 #[c.val] w fun e w' => e = .returned (.int .i64 (c.V.sum : Int)) ∧ Below w.heap.size w w' := by
  have HB := Lib.hid (And.intro (below_box c w) hc)
  clear hc
  have hcell := fun k h => cell_vote c w k h
  have HC := Lib.hid hcell
  clear hcell
  unfold Cf.val
  go_enter Tryd.func18, Tryd.ntmps18
  go_wp2_with fail
  generalize w.alloc (.cells #[.int .u32 (c.e : Int), .int .u8 (c.r : Int), .int .u8 (c.q : Int), .int .u8 (c.v0 : Int), .int .u8 (c.v1 : Int), .int .u8 (c.v2 : Int), .int .u8 (c.v3 : Int), .int .u8 (c.v4 : Int), .int .u8 (c.v5 : Int), .int .u8 (c.v6 : Int), .int .u8 (c.v7 : Int)] 25) = w1 at HB HC ⊢
  go_loop [3, 4] (fun n i => ∃ k : Nat, k ≤ 8 ∧ i = .int .i64 (k : Int) ∧ n = .int .i64 ((c.V.take k).sum : Int)) (fun _ i => 8 - (intOf i).toNat)
  case atStart => exact ⟨0, by omega, rfl, rfl⟩
  case round =>
    obtain ⟨k, hk, rfl, rfl⟩ := hrel
    by_cases hlt : k < 8
    · have hcell := HC.out k hlt
      have hof := sum_append (c.V.take k) (c.V.getD k 0)
      rw [← take_next c.V k hlt] at hof
      have hle := sum_le (c.V.take k) (fun x hx => HB.out.2.v x (List.take_subset _ _ hx))
      have hl8 : (c.V.take k).length = k := by rw [List.length_take, Cf.len]; omega
      rw [hl8] at hle
      have hvl := HB.out.2.get k
      obtain ⟨n, hn⟩ : ∃ n, n = (c.V.take k).sum := ⟨_, rfl⟩
      obtain ⟨v, hv⟩ : ∃ v, v = c.V.getD k 0 := ⟨_, rfl⟩
      rw [← hn] at hof hle ⊢
      rw [← hv] at hcell hof hvl
      clear hn hv
      have hw : wrap64 ((n : Int) + (v : Int)) = ((n + v : Nat) : Int) := by unfold wrap64; omega
      have HO := Lib.hid (And.intro hof hw)
      clear hof hw
      go_wp2_with fail
      go_round
      case rel => exact ⟨k + 1, by omega, by go_num, by rw [HO.out.1, Int.natCast_add]⟩
      case measure => (first | (simp [intOf]; done) | (simp [intOf]; omega))
    · obtain rfl : k = 8 := by omega
      go_wp2_with fail
      go_ret
      exact ⟨rfl, HB.out.1⟩
theorem rvoters_calls (c : Cf) (hc : c.Ok) (w : World) :
    Calls Tryd.prog 20 #[c.val] w fun e w' => e = .returned (.int .u64 (voters c.V : Int)) ∧ Below w.heap.size w w' := by
  have HB := Lib.hid (And.intro (below_box c w) hc)
  clear hc
  have hcell := fun k h => cell_vote c w k h
  have HC := Lib.hid hcell
  clear hcell
  unfold Cf.val
  go_enter Tryd.func20, Tryd.ntmps20
  go_wp2_with fail
  generalize w.alloc (.cells #[.int .u32 (c.e : Int), .int .u8 (c.r : Int), .int .u8 (c.q : Int), .int .u8 (c.v0 : Int), .int .u8 (c.v1 : Int), .int .u8 (c.v2 : Int), .int .u8 (c.v3 : Int), .int .u8 (c.v4 : Int), .int .u8 (c.v5 : Int), .int .u8 (c.v6 : Int), .int .u8 (c.v7 : Int)] 25) = w1 at HB HC ⊢
  go_loop [3, 4] (fun n i => ∃ k : Nat, k ≤ 8 ∧ i = .int .i64 (k : Int) ∧ n = .int .u64 (voters (c.V.take k) : Int)) (fun _ i => 8 - (intOf i).toNat)
  case atStart => exact ⟨0, by omega, rfl, rfl⟩
  case round =>
    obtain ⟨k, hk, rfl, rfl⟩ := hrel
    by_cases hlt : k < 8
    · have hcell := HC.out k hlt
      have hof := voters_append (c.V.take k) (c.V.getD k 0)
      rw [← take_next c.V k hlt] at hof
      have hl8 : (c.V.take k).length = k := by rw [List.length_take, Cf.len]; omega
      have hle := voters_lt64 (c.V.take k) (by omega)
      rw [hl8] at hof
      have hvl := HB.out.2.get k
      obtain ⟨n, hn⟩ : ∃ n, n = voters (c.V.take k) := ⟨_, rfl⟩
      obtain ⟨v, hv⟩ : ∃ v, v = c.V.getD k 0 := ⟨_, rfl⟩
      rw [← hn] at hof hle ⊢
      rw [← hv] at hcell hof hvl
      clear hn hv
      by_cases h0 : 0 < v
      · rw [if_pos h0] at hof
        have hw := refwith_calls n (k : Int) (by omega) (by omega) (by omega) w1
        have hwf : withF n (k : Int) = n ||| 2 ^ k := by unfold withF; rw [bitN_nat k (by omega)]
        rw [hwf, ← hof] at hw
        have HO := Lib.hid hw
        clear hof hw hwf
        go_wp2_with fail
        refine HO.out.mono ?_
        rintro e w' ⟨rfl, rfl⟩
        go_wp2_with fail
        go_round
        case rel => exact ⟨k + 1, by omega, by go_num, rfl⟩
        case measure => (first | (simp [intOf]; done) | (simp [intOf]; omega))
      · rw [if_neg h0] at hof
        have HO := Lib.hid hof
        have hv0 : v = 0 := by omega
        clear hof h0 hvl
        subst hv0
        go_wp2_with fail
        go_round
        case rel => exact ⟨k + 1, by omega, by go_num, by rw [HO.out]⟩
        case measure => (first | (simp [intOf]; done) | (simp [intOf]; omega))
    · obtain rfl : k = 8 := by omega
      go_wp2_with fail
      go_ret
      exact ⟨rfl, HB.out.1⟩
end Go.Proofs.YtcgbjodeklknoaaDoor.Vo
