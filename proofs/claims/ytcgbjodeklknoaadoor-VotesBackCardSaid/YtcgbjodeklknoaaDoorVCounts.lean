/- The walk of the law on the votes of any set. -/
import Derived.Test.YtcgbjodeklknoaaDoorVAlive
namespace Go.Proofs.YtcgbjodeklknoaaDoor.Vo
set_option linter.unusedVariables false
set_option linter.unusedSimpArgs false
open Go.RowKit
open Go.Proofs.YtcgbjodeklknoaaDoor.Bit

/-- What stands behind the world w: nothing of w has turned, and the first new block holds the configuration. -/
def Bx (w : World) (c : Cf) (W : World) : Prop := Below w.heap.size w W ∧ BoxS w.heap.size c W
theorem Bx.drew {w W : World} {c : Cf} (h : Bx w c W) : Bx w c W.drew := ⟨h.1.drew, h.2⟩
theorem bx_new (c : Cf) (w : World) : Bx w c (w.alloc (.cells #[.int .u32 (c.e : Int), .int .u8 (c.r : Int), .int .u8 (c.q : Int), .int .u8 (c.v0 : Int), .int .u8 (c.v1 : Int), .int .u8 (c.v2 : Int), .int .u8 (c.v3 : Int), .int .u8 (c.v4 : Int), .int .u8 (c.v5 : Int), .int .u8 (c.v6 : Int), .int .u8 (c.v7 : Int)] 25)) := ⟨below_box c w, boxS_new c w⟩
theorem at_of {f : Nat} {args : Array Value} {v : Value} {w W : World} {c : Cf} (h : Hid (Bx w c W)) (hc : Calls Tryd.prog f args W fun e w' => e = .returned v ∧ Below W.heap.size W w') :
    Calls Tryd.prog f args W fun e w' => e = .returned v ∧ Hid (Bx w c w') :=
  hc.mono fun _ _ ⟨he, hb⟩ => ⟨he, Lib.hid ⟨h.out.1.trans (hb.mono h.out.1.size), h.out.2.below hb⟩⟩
theorem alive_at {w W : World} {c : Cf} (h : Hid (Bx w c W)) (hT : TabAt 0 Lib.deBruijn64tab w) (hw : 0 < w.heap.size) :
    Calls Tryd.prog 11 #[] W fun e w' => e = .returned (.bool true) ∧ Hid (Bx w c w') :=
  at_of h (alive_calls W (tab_below hT h.out.1 hw) (by have := h.out.1.size; omega))

set_option maxHeartbeats 2000000 in
set_option maxRecDepth 100000 in
theorem VotesCounts_walk (c : Cf) (hc : c.Ok) (s : Nat) (hs : s < 18446744073709551616) (w : World) (hT : TabAt 0 Lib.deBruijn64tab w) (hw : 0 < w.heap.size) :
    Calls Tryd.prog 4 #[c.val, .int .u64 (s : Int)] w fun e w' => e = .returned (.bool true) ∧ Below w.heap.size w w' := by
  have c1 := fun W => vtotal_calls c hc W
  have c2 := fun W => rtotal_calls c hc W
  have c3 := fun W => vvoters_calls c hc W
  have c4 := fun W => rvoters_calls c hc W
  have c5 := fun W => vof_calls c hc s hs W
  have c6 := fun W => rof_calls c hc s hs W
  have c7 := fun W => vreads_calls c hc s hs W
  have c8 := fun W => vwrites_calls c hc s hs W
  have hr := hc.r
  have hq := hc.q
  obtain ⟨n, hn⟩ : ∃ n, n = of c.V s := ⟨_, rfl⟩
  obtain ⟨S, hS⟩ : ∃ n, n = c.V.sum := ⟨_, rfl⟩
  obtain ⟨T, hV⟩ : ∃ n, n = voters c.V := ⟨_, rfl⟩
  rw [← hn] at c5 c6 c7 c8
  rw [← hS] at c1 c2
  rw [← hV] at c3 c4
  have G := Lib.hid (And.intro c1 (And.intro c2 (And.intro c3 (And.intro c4 (And.intro c5 (And.intro c6 (And.intro c7 (And.intro c8 hT))))))))
  have hW1 : IntKind.i64.wrap (c.r : Int) = (c.r : Int) := by rw [IntKind.wrap_i64]; omega
  have hW2 : IntKind.i64.wrap (c.q : Int) = (c.q : Int) := by rw [IntKind.wrap_i64]; omega
  have HX := Lib.hid (bx_new c w)
  clear c1 c2 c3 c4 c5 c6 c7 c8 hT hn hS hV hc
  unfold Cf.val at G ⊢
  go_enter Tryd.func4, Tryd.ntmps4
  go_wp2_with fail
  generalize w.alloc (.cells #[.int .u32 (c.e : Int), .int .u8 (c.r : Int), .int .u8 (c.q : Int), .int .u8 (c.v0 : Int), .int .u8 (c.v1 : Int), .int .u8 (c.v2 : Int), .int .u8 (c.v3 : Int), .int .u8 (c.v4 : Int), .int .u8 (c.v5 : Int), .int .u8 (c.v6 : Int), .int .u8 (c.v7 : Int)] 25) = w1 at HX ⊢
  refine (at_of HX (G.out.2.2.2.2.2.1 w1)).mono ?_
  rintro e w2 ⟨rfl, hx⟩
  have hxd := Lib.hid hx.out.drew
  have H2 := Lib.hid hx.out.2
  go_wp2_with fail
  go_region_held3 (fun W => W.cell? ⟨w.heap.size, 0, none⟩ = some (.int .u32 (c.e : Int)) ∧ W.cell? ⟨w.heap.size, 1, none⟩ = some (.int .u8 (c.r : Int)) ∧ W.cell? ⟨w.heap.size, 2, none⟩ = some (.int .u8 (c.q : Int)) ∧ W.cell? ⟨w.heap.size, 3, none⟩ = some (.int .u8 (c.v0 : Int)) ∧ W.cell? ⟨w.heap.size, 4, none⟩ = some (.int .u8 (c.v1 : Int)) ∧ W.cell? ⟨w.heap.size, 5, none⟩ = some (.int .u8 (c.v2 : Int)) ∧ W.cell? ⟨w.heap.size, 6, none⟩ = some (.int .u8 (c.v3 : Int)) ∧ W.cell? ⟨w.heap.size, 7, none⟩ = some (.int .u8 (c.v4 : Int)) ∧ W.cell? ⟨w.heap.size, 8, none⟩ = some (.int .u8 (c.v5 : Int)) ∧ W.cell? ⟨w.heap.size, 9, none⟩ = some (.int .u8 (c.v6 : Int)) ∧ W.cell? ⟨w.heap.size, 10, none⟩ = some (.int .u8 (c.v7 : Int))) (first | exact hx.out.2) (first | (go_at_call 17; ((with_reducible refine (at_of (by assumption) (G.out.1 _)).mono ?_); rintro e w' ⟨rfl, hx⟩)) | (go_at_call 18; ((with_reducible refine (at_of (by assumption) (G.out.2.1 _)).mono ?_); rintro e w' ⟨rfl, hx⟩)) | (go_at_call 19; ((with_reducible refine (at_of (by assumption) (G.out.2.2.1 _)).mono ?_); rintro e w' ⟨rfl, hx⟩)) | (go_at_call 20; ((with_reducible refine (at_of (by assumption) (G.out.2.2.2.1 _)).mono ?_); rintro e w' ⟨rfl, hx⟩)) | (go_at_call 21; ((with_reducible refine (at_of (by assumption) (G.out.2.2.2.2.1 _)).mono ?_); rintro e w' ⟨rfl, hx⟩)) | (go_at_call 22; ((with_reducible refine (at_of (by assumption) (G.out.2.2.2.2.2.2.1 _)).mono ?_); rintro e w' ⟨rfl, hx⟩)) | (go_at_call 23; ((with_reducible refine (at_of (by assumption) (G.out.2.2.2.2.2.2.2.1 _)).mono ?_); rintro e w' ⟨rfl, hx⟩)) | (go_at_call 11; ((with_reducible refine (alive_at (by assumption) G.out.2.2.2.2.2.2.2.2 hw).mono ?_); rintro e w' ⟨rfl, hx⟩)))
  go_wp2_with fail
  go_ret
  exact ⟨rfl, hx.out.1⟩
end Go.Proofs.YtcgbjodeklknoaaDoor.Vo
