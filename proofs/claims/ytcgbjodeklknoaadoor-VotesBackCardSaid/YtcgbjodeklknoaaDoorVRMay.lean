/- The walk of the reference's: may a configuration be? -/
import Derived.Test.YtcgbjodeklknoaaDoorVMay
namespace Go.Proofs.YtcgbjodeklknoaaDoor.Vo
set_option linter.unusedVariables false
set_option linter.unusedSimpArgs false
open Go.RowKit
open Go.Proofs.YtcgbjodeklknoaaDoor.Bit

theorem foldl_max (l : List Nat) : ∀ a, (l.foldl Nat.max a ≤ 15 ↔ a ≤ 15 ∧ ∀ x ∈ l, x ≤ 15) := by
  induction l with
  | nil => intro a; simp
  | cons v vs ih =>
    intro a
    rw [List.foldl_cons, ih, show a.max v = if a ≤ v then v else a from rfl]
    constructor
    · rintro ⟨h1, h2⟩
      refine ⟨?_, fun x hx => ?_⟩
      · split at h1 <;> omega
      · rcases List.mem_cons.1 hx with rfl | hx
        · split at h1 <;> omega
        · exact h2 x hx
    · rintro ⟨h1, h2⟩
      refine ⟨?_, fun x hx => h2 x (List.mem_cons_of_mem _ hx)⟩
      have := h2 v List.mem_cons_self
      split <;> omega
theorem top_le (l : List Nat) : top l ≤ 15 ↔ ∀ k, l.getD k 0 ≤ 15 := by
  unfold top
  rw [foldl_max]
  constructor
  · rintro ⟨_, h⟩ k
    by_cases hk : k < l.length
    · rw [List.getD_eq_getElem?_getD, List.getElem?_eq_getElem hk]; exact h _ (List.getElem_mem hk)
    · rw [List.getD_eq_getElem?_getD, List.getElem?_eq_none (by omega)]; decide
  · intro h
    refine ⟨by omega, fun x hx => ?_⟩
    obtain ⟨k, hk, rfl⟩ := List.mem_iff_getElem.1 hx
    have := h k
    rw [List.getD_eq_getElem?_getD, List.getElem?_eq_getElem hk] at this
    exact this
theorem rtotal_from {w W : World} (hW : Below w.heap.size w W) (b : Nat) (c : Cf) (hS : BoxS b c W) (hc : c.Ok) (n : Nat) (hn : n = c.V.sum) :
    Calls Tryd.prog 18 #[.agg #[.int .u32 (c.e : Int), .int .u8 (c.r : Int), .int .u8 (c.q : Int), .int .u8 (c.v0 : Int), .int .u8 (c.v1 : Int), .int .u8 (c.v2 : Int), .int .u8 (c.v3 : Int), .int .u8 (c.v4 : Int), .int .u8 (c.v5 : Int), .int .u8 (c.v6 : Int), .int .u8 (c.v7 : Int)]] W fun e w' => e = .returned (.int .i64 (n : Int)) ∧ Below w.heap.size w w' ∧ Hid (BoxS b c w') := by
  subst hn
  exact (rtotal_calls c hc W).mono fun _ _ ⟨he, hb⟩ => ⟨he, hW.trans (hb.mono hW.size), Lib.hid (hS.below hb)⟩
theorem BoxS.vote {b : Nat} {c : Cf} {w : World} (h : BoxS b c w) (k : Nat) (hk : k < 8) : w.cell? ⟨b, 3 + k, none⟩ = some (.int .u8 (c.V.getD k 0 : Int)) := by
  obtain ⟨_, _, _, h3, h4, h5, h6, h7, h8, h9, h10⟩ := h
  rcases lt8 hk with rfl | rfl | rfl | rfl | rfl | rfl | rfl | rfl <;> assumption
set_option maxHeartbeats 800000 in
theorem rmay_calls (c : Cf) (hc : c.Ok) (w : World) :
    Calls Tryd.prog 15 #[c.val] w fun e w' => e = .returned (.bool (mayF c)) ∧ Below w.heap.size w w' := by
  have hsum := sum_le c.V hc.v
  rw [Cf.len] at hsum
  have hr := hc.r
  have hq := hc.q
  have he := hc.e
  have hm0 : ∀ S, S = c.V.sum → mayF c = decide (1 ≤ c.e ∧ c.e ≤ 2147483647 ∧ top c.V ≤ 15 ∧ 1 ≤ c.r ∧ c.r ≤ S ∧ 1 ≤ c.q ∧ c.q ≤ S ∧ S < c.r + c.q ∧ S < 2 * c.q) := by
    rintro S rfl; rfl
  obtain ⟨S, hS⟩ : ∃ S, S = c.V.sum := ⟨_, rfl⟩
  have hm := hm0 S hS
  obtain ⟨m, hmm⟩ : ∃ m, m = mayF c := ⟨_, rfl⟩
  rw [← hmm] at hm ⊢
  have HM := Lib.hid hm
  rw [← hS] at hsum
  have HN := Lib.hid hS
  have HC := Lib.hid hc
  clear hc hS hm hmm hm0
  have hB := below_box c w
  have hS := boxS_new c w
  have hW1 : IntKind.i64.wrap (c.r : Int) = (c.r : Int) := by rw [IntKind.wrap_i64]; omega
  have hW2 : IntKind.i64.wrap (c.q : Int) = (c.q : Int) := by rw [IntKind.wrap_i64]; omega
  unfold Cf.val
  go_enter Tryd.func15, Tryd.ntmps15
  go_wp2_with fail
  generalize w.alloc (.cells #[.int .u32 (c.e : Int), .int .u8 (c.r : Int), .int .u8 (c.q : Int), .int .u8 (c.v0 : Int), .int .u8 (c.v1 : Int), .int .u8 (c.v2 : Int), .int .u8 (c.v3 : Int), .int .u8 (c.v4 : Int), .int .u8 (c.v5 : Int), .int .u8 (c.v6 : Int), .int .u8 (c.v7 : Int)] 25) = w1 at hB hS ⊢
  go_region_held3 (fun W => W.cell? ⟨w.heap.size, 0, none⟩ = some (.int .u32 (c.e : Int)) ∧ W.cell? ⟨w.heap.size, 1, none⟩ = some (.int .u8 (c.r : Int)) ∧ W.cell? ⟨w.heap.size, 2, none⟩ = some (.int .u8 (c.q : Int)) ∧ W.cell? ⟨w.heap.size, 3, none⟩ = some (.int .u8 (c.v0 : Int)) ∧ W.cell? ⟨w.heap.size, 4, none⟩ = some (.int .u8 (c.v1 : Int)) ∧ W.cell? ⟨w.heap.size, 5, none⟩ = some (.int .u8 (c.v2 : Int)) ∧ W.cell? ⟨w.heap.size, 6, none⟩ = some (.int .u8 (c.v3 : Int)) ∧ W.cell? ⟨w.heap.size, 7, none⟩ = some (.int .u8 (c.v4 : Int)) ∧ W.cell? ⟨w.heap.size, 8, none⟩ = some (.int .u8 (c.v5 : Int)) ∧ W.cell? ⟨w.heap.size, 9, none⟩ = some (.int .u8 (c.v6 : Int)) ∧ W.cell? ⟨w.heap.size, 10, none⟩ = some (.int .u8 (c.v7 : Int))) (first | exact hS.drew | exact hb3.out) (first | (go_at_call 18; ((with_reducible refine (rtotal_from (w := w) hB.drew w.heap.size c hS.drew HC.out S HN.out).mono ?_); rintro e w' ⟨rfl, hb2, hb3⟩)))
  have H2 := Lib.hid (And.intro hb2 hb3.out)
  clear hb2 hb3 hS hB
  go_wp2_with fail
  go_loop [6] (fun i => ∃ k : Nat, k ≤ 8 ∧ i = .int .i64 (k : Int) ∧ ∀ j, j < k → c.V.getD j 0 ≤ 15) (fun i => 8 - (intOf i).toNat)
  case atStart => exact ⟨0, by omega, rfl, fun j h => by omega⟩
  case round =>
    obtain ⟨k, hk, rfl, hall⟩ := hrel
    have HA := Lib.hid hall
    clear hall
    by_cases hlt : k < 8
    · have hcell := H2.out.2.vote k hlt
      have hvl := HC.out.get k
      obtain ⟨v, hv⟩ : ∃ v, v = c.V.getD k 0 := ⟨_, rfl⟩
      rw [← hv] at hcell hvl
      have HV := Lib.hid hv
      clear hv
      by_cases h15 : v ≤ 15
      · go_wp2_with fail
        go_round
        case rel => exact ⟨k + 1, by omega, by go_num, fun j hj => by
          by_cases h : j < k
          · exact HA.out j h
          · obtain rfl : j = k := by omega
            rw [← HV.out]; exact h15⟩
        case measure => (first | (simp [intOf]; done) | (simp [intOf]; omega))
      · go_wp2_with fail
        go_ret
        refine ⟨?_, H2.out.1⟩
        have hT : ¬ top c.V ≤ 15 := fun h => by
          have := (top_le c.V).1 h k
          rw [← HV.out] at this
          omega
        rw [HM.out, decide_eq_false (fun h => hT h.2.2.1)]
        rfl
    · obtain rfl : k = 8 := by omega
      have hT : top c.V ≤ 15 := (top_le c.V).2 (fun j => by
        by_cases h : j < 8
        · exact HA.out j h
        · rw [List.getD_eq_getElem?_getD, List.getElem?_eq_none (by rw [Cf.len]; omega)]; decide)
      obtain ⟨T, hT2⟩ : ∃ T, T = top c.V := ⟨_, rfl⟩
      have hm := HM.out
      rw [← hT2] at hm hT
      have HM2 := Lib.hid hm
      clear hm hT2 HM hlt
      obtain ⟨k0, k1, k2, _, _, _, _, _, _, _, _⟩ := H2.out.2
      by_cases p6 : S < 2 * c.q
      · have d6 : decide ((S : Int) < 2 * (c.q : Int)) = true := decide_eq_true (by omega)
        go_wp2_with fail
        all_goals (go_ret; refine ⟨?_, H2.out.1⟩; rw [HM2.out]; first | (rw [decide_eq_false (by omega)]; rfl) | (rw [decide_eq_true (by omega)]; rfl))
      · have d6 : decide ((S : Int) < 2 * (c.q : Int)) = false := decide_eq_false (by omega)
        go_wp2_with fail
        all_goals (go_ret; refine ⟨?_, H2.out.1⟩; rw [HM2.out]; first | (rw [decide_eq_false (by omega)]; rfl) | (rw [decide_eq_true (by omega)]; rfl))
end Go.Proofs.YtcgbjodeklknoaaDoor.Vo
