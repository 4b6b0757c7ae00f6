/- The walk of the law on quorums. -/
import Derived.Test.YtcgbjodeklknoaaDoorVRLeast
namespace Go.Proofs.YtcgbjodeklknoaaDoor.Vo
set_option linter.unusedVariables false
set_option linter.unusedSimpArgs false
open Go.RowKit
open Go.Proofs.YtcgbjodeklknoaaDoor.Bit

theorem Bx.below {w W W' : World} {c : Cf} (h : Bx w c W) (hb : Below W.heap.size W W') : Bx w c W' := ⟨h.1.trans (hb.mono h.1.size), h.2.below hb⟩
set_option maxHeartbeats 4000000 in
set_option maxRecDepth 100000 in
theorem VotesQuorums_walk (c : Cf) (hc : c.Ok) (want : Int) (h0 : -9223372036854775808 ≤ want) (h1 : want ≤ 9223372036854775807) (f : Nat) (hf : f < 18446744073709551616) (w : World) (hT : TabAt 0 Lib.deBruijn64tab w) (hw : 0 < w.heap.size) :
    Calls Tryd.prog 8 #[c.val, .int .i64 want, .int .u64 (f : Int)] w fun e w' => e = .returned (.bool true) ∧ Below w.heap.size w w' := by
  have t1 := fun W (h : Bx w c W) => vleast_calls c hc want h0 h1 f hf W (tab_below hT h.1 hw) (by have := h.1.size; omega)
  have t2 := fun W => rleast_calls c hc want h0 h1 f hf W
  have t3 := fun W (h : Bx w c W) => vquorums_calls c hc want h0 h1 W (tab_below hT h.1 hw) (by have := h.1.size; omega)
  have t4 := fun W => rquorums_calls c hc want h0 h1 W
  have hql := qs_len c.V want
  obtain ⟨Q, hQ⟩ : ∃ Q, Q = qs c.V want := ⟨_, rfl⟩
  rw [← hQ] at t3 t4 hql
  obtain ⟨M, hM⟩ : ∃ M, M = leastF c.V want f := ⟨_, rfl⟩
  rw [← hM] at t1 t2
  have q1 : ∀ W, Hid (Bx w c W) → Calls Tryd.prog 29 #[c.val, .int .i64 want] W fun e w' => ∃ A cc, e = .returned (.slice A Q.length cc) ∧ Hid (Bx w c w' ∧ RowU w' A Q) := fun W h => (t3 W h.out).mono fun e w' ⟨v, he, ho, hb⟩ => by
    obtain ⟨A, cc, rfl, hr⟩ := own_sets ho
    exact ⟨A, cc, he, Lib.hid ⟨h.out.below hb, hr⟩⟩
  have q2 : ∀ W A, Hid (Bx w c W ∧ RowU W A Q) → Calls Tryd.prog 30 #[c.val, .int .i64 want] W fun e w' => ∃ A' cc', e = .returned (.slice A' Q.length cc') ∧ Hid (Bx w c w' ∧ RowU w' A Q ∧ RowU w' A' Q) := fun W A h => (t4 W).mono fun e w' ⟨v, he, ho, hb⟩ => by
    obtain ⟨A', cc, rfl, hr⟩ := own_sets ho
    exact ⟨A', cc, he, Lib.hid ⟨h.out.1.below hb, h.out.2.below hb, hr⟩⟩
  have q3 : ∀ W A A' cc cc', Hid (Bx w c W ∧ RowU W A Q ∧ RowU W A' Q) → Calls Tryd.prog 28 #[.slice A Q.length cc, .slice A' Q.length cc'] W fun e w' => e = .returned (.bool true) ∧ Hid (Bx w c w') := fun W A A' cc cc' h => (sets_calls A cc Q A' cc' Q W h.out.2.1 h.out.2.2 (by omega)).mono fun e w' ⟨he, hb⟩ => by
    rw [decide_eq_true rfl] at he
    exact ⟨he, Lib.hid (h.out.1.below hb)⟩
  have G := Lib.hid (And.intro t1 (And.intro t2 (And.intro q1 (And.intro q2 (And.intro q3 hT)))))
  have HX := Lib.hid (bx_new c w)
  clear t1 t2 t3 t4 q1 q2 q3 hT hQ hM hc hf h0 h1
  unfold Cf.val at G ⊢
  go_enter Tryd.func8, Tryd.ntmps8
  go_wp2_with fail
  generalize w.alloc (.cells #[.int .u32 (c.e : Int), .int .u8 (c.r : Int), .int .u8 (c.q : Int), .int .u8 (c.v0 : Int), .int .u8 (c.v1 : Int), .int .u8 (c.v2 : Int), .int .u8 (c.v3 : Int), .int .u8 (c.v4 : Int), .int .u8 (c.v5 : Int), .int .u8 (c.v6 : Int), .int .u8 (c.v7 : Int)] 25) = w1 at HX ⊢
  refine (at_of HX (G.out.1 w1 HX.out)).mono ?_
  rintro e w2 ⟨rfl, hx2⟩
  obtain ⟨k0, k1, k2, k3, k4, k5, k6, k7, k8, k9, k10⟩ := hx2.out.2
  go_wp2_with fail
  refine (at_of hx2 (G.out.2.1 w2)).mono ?_
  rintro e w3 ⟨rfl, hx⟩
  clear k0 k1 k2 k3 k4 k5 k6 k7 k8 k9 k10
  obtain ⟨x, y⟩ := M
  have hxd := Lib.hid hx.out.drew
  go_wp2_with fail
  go_region_held3 (fun W => W.cell? ⟨w.heap.size, 0, none⟩ = some (.int .u32 (c.e : Int)) ∧ W.cell? ⟨w.heap.size, 1, none⟩ = some (.int .u8 (c.r : Int)) ∧ W.cell? ⟨w.heap.size, 2, none⟩ = some (.int .u8 (c.q : Int)) ∧ W.cell? ⟨w.heap.size, 3, none⟩ = some (.int .u8 (c.v0 : Int)) ∧ W.cell? ⟨w.heap.size, 4, none⟩ = some (.int .u8 (c.v1 : Int)) ∧ W.cell? ⟨w.heap.size, 5, none⟩ = some (.int .u8 (c.v2 : Int)) ∧ W.cell? ⟨w.heap.size, 6, none⟩ = some (.int .u8 (c.v3 : Int)) ∧ W.cell? ⟨w.heap.size, 7, none⟩ = some (.int .u8 (c.v4 : Int)) ∧ W.cell? ⟨w.heap.size, 8, none⟩ = some (.int .u8 (c.v5 : Int)) ∧ W.cell? ⟨w.heap.size, 9, none⟩ = some (.int .u8 (c.v6 : Int)) ∧ W.cell? ⟨w.heap.size, 10, none⟩ = some (.int .u8 (c.v7 : Int))) (first | exact hx.out.2 | exact hq.out.1.2 | exact hr.out.1.2) (first | (go_at_call 29; ((with_reducible refine (G.out.2.2.1 _ (by assumption)).mono ?_); rintro e w' ⟨A, cc, rfl, hq⟩)) | (go_at_call 30; ((with_reducible refine (G.out.2.2.2.1 _ A (by assumption)).mono ?_); rintro e w' ⟨A', cc', rfl, hr⟩)) | (go_at_call 28; ((with_reducible refine (G.out.2.2.2.2.1 _ A A' cc cc' (by assumption)).mono ?_); rintro e w' ⟨rfl, hx⟩)) | (go_at_call 11; ((with_reducible refine (alive_at (by assumption) G.out.2.2.2.2.2 hw).mono ?_); rintro e w' ⟨rfl, hx⟩)))
  go_wp2_with fail
  go_ret
  exact ⟨rfl, hx.out.1⟩
end Go.Proofs.YtcgbjodeklknoaaDoor.Vo
