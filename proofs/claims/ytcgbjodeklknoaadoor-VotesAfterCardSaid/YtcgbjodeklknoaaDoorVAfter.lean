/- The walks of: may a configuration follow another one? And of the law on it. -/
import Derived.Test.YtcgbjodeklknoaaDoorVCounts
namespace Go.Proofs.YtcgbjodeklknoaaDoor.Vo
set_option linter.unusedVariables false
set_option linter.unusedSimpArgs false
open Go.RowKit
open Go.Proofs.YtcgbjodeklknoaaDoor.Bit

theorem next_calls (n : Nat) (h1 : n < 4294967296) (w : World) :
    Calls Tryd.prog 41 #[.int .u32 (n : Int)] w fun e w' => e = .returned (.tuple #[.int .u32 (if 2147483647 ≤ n then (n : Int) else (n : Int) + 1), .int .i64 (if 2147483647 ≤ n then 17 else 0)]) ∧ w = w' := by
  by_cases h : 2147483647 ≤ n
  · have hd : decide ((2147483647 : Int) ≤ (n : Int)) = true := decide_eq_true (by omega)
    have H := Lib.hid h
    clear h h1
    go_enter Tryd.func41, Tryd.ntmps41
    go_wp2_with fail
    go_ret2
    exact ⟨rfl, rfl⟩
  · have hd : decide ((2147483647 : Int) ≤ (n : Int)) = false := decide_eq_false (by omega)
    have e : ((n : Int) + 1) % 4294967296 = (n : Int) + 1 := by omega
    have H := Lib.hid h
    clear h h1
    go_enter Tryd.func41, Tryd.ntmps41
    go_wp2_with fail
    go_ret2
    exact ⟨rfl, rfl⟩
set_option maxRecDepth 100000 in

/-- May it follow? -/
def afterF (a b : Cf) : Nat := if 2147483647 ≤ a.e then 17 else if b.e = a.e + 1 then (if mayF b = true then 0 else 16) else 13
/-- Two configurations behind the world w. -/
def Bx2 (w : World) (a b : Cf) (W : World) : Prop := Below w.heap.size w W ∧ BoxS w.heap.size a W ∧ BoxS (w.heap.size + 1) b W
theorem bx2_new (a b : Cf) (w : World) : Bx2 w a b ((w.alloc (.cells #[.int .u32 (a.e : Int), .int .u8 (a.r : Int), .int .u8 (a.q : Int), .int .u8 (a.v0 : Int), .int .u8 (a.v1 : Int), .int .u8 (a.v2 : Int), .int .u8 (a.v3 : Int), .int .u8 (a.v4 : Int), .int .u8 (a.v5 : Int), .int .u8 (a.v6 : Int), .int .u8 (a.v7 : Int)] 25)).alloc (.cells #[.int .u32 (b.e : Int), .int .u8 (b.r : Int), .int .u8 (b.q : Int), .int .u8 (b.v0 : Int), .int .u8 (b.v1 : Int), .int .u8 (b.v2 : Int), .int .u8 (b.v3 : Int), .int .u8 (b.v4 : Int), .int .u8 (b.v5 : Int), .int .u8 (b.v6 : Int), .int .u8 (b.v7 : Int)] 25)) := by
  have h1 := bx_new a w
  have h2 := boxS_new b (w.alloc (.cells #[.int .u32 (a.e : Int), .int .u8 (a.r : Int), .int .u8 (a.q : Int), .int .u8 (a.v0 : Int), .int .u8 (a.v1 : Int), .int .u8 (a.v2 : Int), .int .u8 (a.v3 : Int), .int .u8 (a.v4 : Int), .int .u8 (a.v5 : Int), .int .u8 (a.v6 : Int), .int .u8 (a.v7 : Int)] 25))
  rw [World.size_alloc] at h2
  exact ⟨h1.1.alloc (by simp) _, h1.2.below (below_alloc1 _ _), h2⟩
theorem Bx2.drew {w W : World} {a b : Cf} (h : Bx2 w a b W) : Bx2 w a b W.drew := ⟨h.1.drew, h.2.1, h.2.2⟩
theorem at_of2 {f : Nat} {args : Array Value} {v : Value} {w W : World} {a b : Cf} (h : Hid (Bx2 w a b W)) (hc : Calls Tryd.prog f args W fun e w' => e = .returned v ∧ Below W.heap.size W w') :
    Calls Tryd.prog f args W fun e w' => e = .returned v ∧ Hid (Bx2 w a b w') :=
  hc.mono fun _ _ ⟨he, hb⟩ => ⟨he, Lib.hid ⟨h.out.1.trans (hb.mono h.out.1.size), h.out.2.1.below hb, h.out.2.2.below hb⟩⟩
theorem alive_at2 {w W : World} {a b : Cf} (h : Hid (Bx2 w a b W)) (hT : TabAt 0 Lib.deBruijn64tab w) (hw : 0 < w.heap.size) :
    Calls Tryd.prog 11 #[] W fun e w' => e = .returned (.bool true) ∧ Hid (Bx2 w a b w') :=
  at_of2 h (alive_calls W (tab_below hT h.out.1 hw) (by have := h.out.1.size; omega))
theorem vafter_calls (a b : Cf) (ha : a.Ok) (hb : b.Ok) (w : World) :
    Calls Tryd.prog 24 #[a.val, b.val] w fun e w' => e = .returned (.int .i64 (afterF a b : Int)) ∧ Below w.heap.size w w' := by
  have hae := ha.e
  have hbe := hb.e
  have c1 := fun W => next_calls a.e ha.e W
  have c2 := fun W => vmay_calls b hb W
  have haf : afterF a b = if 2147483647 ≤ a.e then 17 else if b.e = a.e + 1 then (if mayF b = true then 0 else 16) else 13 := rfl
  obtain ⟨y, hy⟩ : ∃ y, y = mayF b := ⟨_, rfl⟩
  rw [← hy] at haf c2
  obtain ⟨r, hr⟩ : ∃ r, r = afterF a b := ⟨_, rfl⟩
  rw [← hr] at haf ⊢
  have HX := Lib.hid (bx2_new a b w)
  by_cases h1 : 2147483647 ≤ a.e
  · have c1' : ∀ W, Calls Tryd.prog 41 #[.int .u32 (a.e : Int)] W fun e w' => e = .returned (.tuple #[.int .u32 (a.e : Int), .int .i64 17]) ∧ W = w' := by
      intro W; have := c1 W; rw [if_pos h1, if_pos h1] at this; exact this
    rw [if_pos h1] at haf
    have G := Lib.hid (And.intro c1' haf)
    clear c1 c1' c2 haf hy hr ha hb h1
    unfold Cf.val
    obtain ⟨k0, k1, k2, k3, k4, k5, k6, k7, k8, k9, k10⟩ := HX.out.2.1
    go_enter Tryd.func24, Tryd.ntmps24
    go_wp2_with fail
    refine (G.out.1 _).mono ?_
    rintro e w' ⟨rfl, rfl⟩
    go_wp2_with fail
    go_ret
    exact ⟨by rw [G.out.2]; rfl, HX.out.1⟩
  · have c1' : ∀ W, Calls Tryd.prog 41 #[.int .u32 (a.e : Int)] W fun e w' => e = .returned (.tuple #[.int .u32 ((a.e : Int) + 1), .int .i64 0]) ∧ W = w' := by
      intro W; have := c1 W; rw [if_neg h1, if_neg h1] at this; exact this
    rw [if_neg h1] at haf
    by_cases h2 : b.e = a.e + 1
    · have hne : ((b.e : Int) != (a.e : Int) + 1) = false := by rw [bne_eq_false_iff_eq]; omega
      rw [if_pos h2] at haf
      have G := Lib.hid (And.intro c1' (And.intro haf c2))
      clear c1 c1' c2 haf hy hr ha hb h1 h2
      unfold Cf.val at G ⊢
      obtain ⟨k0, k1, k2, k3, k4, k5, k6, k7, k8, k9, k10⟩ := HX.out.2.1
      clear k1 k2 k3 k4 k5 k6 k7 k8 k9 k10
      obtain ⟨m0, m1, m2, m3, m4, m5, m6, m7, m8, m9, m10⟩ := HX.out.2.2
      go_enter Tryd.func24, Tryd.ntmps24
      go_wp2_with fail
      refine (G.out.1 _).mono ?_
      rintro e w' ⟨rfl, rfl⟩
      go_wp2_with fail
      refine (at_of2 HX (G.out.2.2 _)).mono ?_
      rintro e w3 ⟨rfl, hx⟩
      cases y with
      | true =>
        go_wp2_with fail
        go_ret
        exact ⟨by rw [G.out.2.1]; rfl, hx.out.1⟩
      | false =>
        go_wp2_with fail
        go_ret
        exact ⟨by rw [G.out.2.1]; rfl, hx.out.1⟩
    · have hne : ((b.e : Int) != (a.e : Int) + 1) = true := by rw [bne_iff_ne]; omega
      rw [if_neg h2] at haf
      have G := Lib.hid (And.intro c1' haf)
      clear c1 c1' c2 haf hy hr ha hb h1 h2
      unfold Cf.val
      obtain ⟨k0, k1, k2, k3, k4, k5, k6, k7, k8, k9, k10⟩ := HX.out.2.1
      clear k1 k2 k3 k4 k5 k6 k7 k8 k9 k10
      obtain ⟨m0, m1, m2, m3, m4, m5, m6, m7, m8, m9, m10⟩ := HX.out.2.2
      go_enter Tryd.func24, Tryd.ntmps24
      go_wp2_with fail
      refine (G.out.1 _).mono ?_
      rintro e w' ⟨rfl, rfl⟩
      go_wp2_with fail
      go_ret
      exact ⟨by rw [G.out.2]; rfl, HX.out.1⟩
theorem rafter_calls (a b : Cf) (ha : a.Ok) (hb : b.Ok) (w : World) :
    Calls Tryd.prog 25 #[a.val, b.val] w fun e w' => e = .returned (.int .i64 (afterF a b : Int)) ∧ Below w.heap.size w w' := by
  have hae := ha.e
  have hbe := hb.e
  have c2 := fun W => rmay_calls b hb W
  have haf : afterF a b = if 2147483647 ≤ a.e then 17 else if b.e = a.e + 1 then (if mayF b = true then 0 else 16) else 13 := rfl
  obtain ⟨y, hy⟩ : ∃ y, y = mayF b := ⟨_, rfl⟩
  rw [← hy] at haf c2
  obtain ⟨r, hr⟩ : ∃ r, r = afterF a b := ⟨_, rfl⟩
  rw [← hr] at haf ⊢
  have HX := Lib.hid (bx2_new a b w)
  by_cases h1 : 2147483647 ≤ a.e
  · have h1' : decide ((2147483647 : Int) ≤ (a.e : Int)) = true := decide_eq_true (by omega)
    rw [if_pos h1] at haf
    have G := Lib.hid haf
    clear c2 haf hy hr ha hb h1 hae hbe
    unfold Cf.val
    obtain ⟨k0, k1, k2, k3, k4, k5, k6, k7, k8, k9, k10⟩ := HX.out.2.1
    clear k1 k2 k3 k4 k5 k6 k7 k8 k9 k10
    go_enter Tryd.func25, Tryd.ntmps25
    go_wp2_with fail
    go_ret
    exact ⟨by rw [G.out]; rfl, HX.out.1⟩
  · have h1' : decide ((2147483647 : Int) ≤ (a.e : Int)) = false := decide_eq_false (by omega)
    have hw : ((a.e : Int) + 1) % 4294967296 = (a.e : Int) + 1 := by omega
    rw [if_neg h1] at haf
    by_cases h2 : b.e = a.e + 1
    · have hne : ((b.e : Int) != (a.e : Int) + 1) = false := by rw [bne_eq_false_iff_eq]; omega
      rw [if_pos h2] at haf
      have G := Lib.hid (And.intro haf c2)
      clear c2 haf hy hr ha hb h1 h2 hae hbe
      unfold Cf.val at G ⊢
      obtain ⟨k0, k1, k2, k3, k4, k5, k6, k7, k8, k9, k10⟩ := HX.out.2.1
      clear k1 k2 k3 k4 k5 k6 k7 k8 k9 k10
      obtain ⟨m0, m1, m2, m3, m4, m5, m6, m7, m8, m9, m10⟩ := HX.out.2.2
      go_enter Tryd.func25, Tryd.ntmps25
      go_wp2_with fail
      refine (at_of2 HX (G.out.2 _)).mono ?_
      rintro e w3 ⟨rfl, hx⟩
      cases y with
      | true =>
        go_wp2_with fail
        go_ret
        exact ⟨by rw [G.out.1]; rfl, hx.out.1⟩
      | false =>
        go_wp2_with fail
        go_ret
        exact ⟨by rw [G.out.1]; rfl, hx.out.1⟩
    · have hne : ((b.e : Int) != (a.e : Int) + 1) = true := by rw [bne_iff_ne]; omega
      rw [if_neg h2] at haf
      have G := Lib.hid haf
      clear c2 haf hy hr ha hb h1 h2 hae hbe
      unfold Cf.val
      obtain ⟨k0, k1, k2, k3, k4, k5, k6, k7, k8, k9, k10⟩ := HX.out.2.1
      clear k1 k2 k3 k4 k5 k6 k7 k8 k9 k10
      obtain ⟨m0, m1, m2, m3, m4, m5, m6, m7, m8, m9, m10⟩ := HX.out.2.2
      go_enter Tryd.func25, Tryd.ntmps25
      go_wp2_with fail
      go_ret
      exact ⟨by rw [G.out]; rfl, HX.out.1⟩
set_option maxHeartbeats 2000000 in
set_option maxRecDepth 100000 in
theorem VotesAfter_walk (a b : Cf) (ha : a.Ok) (hb : b.Ok) (w : World) (hT : TabAt 0 Lib.deBruijn64tab w) (hw : 0 < w.heap.size) :
    Calls Tryd.prog 7 #[a.val, b.val] w fun e w' => e = .returned (.bool true) ∧ Below w.heap.size w w' := by
  have c1 := fun W => vafter_calls a b ha hb W
  have c2 := fun W => rafter_calls a b ha hb W
  obtain ⟨r, hr⟩ : ∃ r, r = afterF a b := ⟨_, rfl⟩
  rw [← hr] at c1 c2
  have G := Lib.hid (And.intro c1 (And.intro c2 hT))
  have HX := Lib.hid (bx2_new a b w)
  clear c1 c2 hT hr ha hb
  unfold Cf.val at G ⊢
  go_enter Tryd.func7, Tryd.ntmps7
  go_wp2_with fail
  generalize (w.alloc (.cells #[.int .u32 (a.e : Int), .int .u8 (a.r : Int), .int .u8 (a.q : Int), .int .u8 (a.v0 : Int), .int .u8 (a.v1 : Int), .int .u8 (a.v2 : Int), .int .u8 (a.v3 : Int), .int .u8 (a.v4 : Int), .int .u8 (a.v5 : Int), .int .u8 (a.v6 : Int), .int .u8 (a.v7 : Int)] 25)).alloc (.cells #[.int .u32 (b.e : Int), .int .u8 (b.r : Int), .int .u8 (b.q : Int), .int .u8 (b.v0 : Int), .int .u8 (b.v1 : Int), .int .u8 (b.v2 : Int), .int .u8 (b.v3 : Int), .int .u8 (b.v4 : Int), .int .u8 (b.v5 : Int), .int .u8 (b.v6 : Int), .int .u8 (b.v7 : Int)] 25) = w1 at HX ⊢
  have hx := HX
  have hxd := Lib.hid hx.out.drew
  go_region_held3 (fun W => (W.cell? ⟨w.heap.size, 0, none⟩ = some (.int .u32 (a.e : Int)) ∧ W.cell? ⟨w.heap.size, 1, none⟩ = some (.int .u8 (a.r : Int)) ∧ W.cell? ⟨w.heap.size, 2, none⟩ = some (.int .u8 (a.q : Int)) ∧ W.cell? ⟨w.heap.size, 3, none⟩ = some (.int .u8 (a.v0 : Int)) ∧ W.cell? ⟨w.heap.size, 4, none⟩ = some (.int .u8 (a.v1 : Int)) ∧ W.cell? ⟨w.heap.size, 5, none⟩ = some (.int .u8 (a.v2 : Int)) ∧ W.cell? ⟨w.heap.size, 6, none⟩ = some (.int .u8 (a.v3 : Int)) ∧ W.cell? ⟨w.heap.size, 7, none⟩ = some (.int .u8 (a.v4 : Int)) ∧ W.cell? ⟨w.heap.size, 8, none⟩ = some (.int .u8 (a.v5 : Int)) ∧ W.cell? ⟨w.heap.size, 9, none⟩ = some (.int .u8 (a.v6 : Int)) ∧ W.cell? ⟨w.heap.size, 10, none⟩ = some (.int .u8 (a.v7 : Int))) ∧ (W.cell? ⟨w.heap.size + 1, 0, none⟩ = some (.int .u32 (b.e : Int)) ∧ W.cell? ⟨w.heap.size + 1, 1, none⟩ = some (.int .u8 (b.r : Int)) ∧ W.cell? ⟨w.heap.size + 1, 2, none⟩ = some (.int .u8 (b.q : Int)) ∧ W.cell? ⟨w.heap.size + 1, 3, none⟩ = some (.int .u8 (b.v0 : Int)) ∧ W.cell? ⟨w.heap.size + 1, 4, none⟩ = some (.int .u8 (b.v1 : Int)) ∧ W.cell? ⟨w.heap.size + 1, 5, none⟩ = some (.int .u8 (b.v2 : Int)) ∧ W.cell? ⟨w.heap.size + 1, 6, none⟩ = some (.int .u8 (b.v3 : Int)) ∧ W.cell? ⟨w.heap.size + 1, 7, none⟩ = some (.int .u8 (b.v4 : Int)) ∧ W.cell? ⟨w.heap.size + 1, 8, none⟩ = some (.int .u8 (b.v5 : Int)) ∧ W.cell? ⟨w.heap.size + 1, 9, none⟩ = some (.int .u8 (b.v6 : Int)) ∧ W.cell? ⟨w.heap.size + 1, 10, none⟩ = some (.int .u8 (b.v7 : Int)))) (first | exact hx.out.2) (first | (go_at_call 24; ((with_reducible refine (at_of2 (by assumption) (G.out.1 _)).mono ?_); rintro e w' ⟨rfl, hx⟩)) | (go_at_call 25; ((with_reducible refine (at_of2 (by assumption) (G.out.2.1 _)).mono ?_); rintro e w' ⟨rfl, hx⟩)) | (go_at_call 11; ((with_reducible refine (alive_at2 (by assumption) G.out.2.2 hw).mono ?_); rintro e w' ⟨rfl, hx⟩)))
  go_wp2_with fail
  go_ret
  exact ⟨rfl, hx.out.1⟩
end Go.Proofs.YtcgbjodeklknoaaDoor.Vo
