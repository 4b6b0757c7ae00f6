/- The walks of how many bytes a frame has. -/
import Derived.Test.YtjngekbgfinidaaFrameLaid
namespace Go.Proofs.Ytjngekbgfinidaa.Fr
set_option linter.unusedVariables false
set_option linter.unusedSimpArgs false
open Go.RowKit
open Go.Proofs.Ytjngekbgfinidaa.Num Go.Proofs.Ytjngekbgfinidaa.Crc

set_option maxRecDepth 100000 in
theorem size_end0 (a : Option Addr) (c : Nat) (w : World) :
    Calls Try.prog 24 #[.slice a 0 c] w fun e w' => e = .returned (.tuple #[.int .i64 0, .int .i64 4]) ∧ Below w.heap.size w w' := by
  go_enter Try.func24, Try.ntmps24
  go_wp2_with fail
  refine wp_loop_rounds 1 ?_
  rw [rounds_succ]
  go_wp2_with fail
  go_ret2
  exact ⟨rfl, (by repeat (first | exact Below.refl _ _ | assumption | apply Below.drew | apply below_drewN | (refine Below.alloc ?_ (by first | (simp; done) | omega | (simp; omega)) _)))⟩
theorem ne_of {y : UInt8} {k : Nat} (hk : k < 256) (hy : y ≠ UInt8.ofNat k) : ((y.toNat : Int) != (k : Int)) = true := by
  rw [bne_iff_ne]; intro h; apply hy; apply UInt8.toNat_inj.1; rw [UInt8.toNat_ofNat']; omega
set_option maxRecDepth 100000 in
theorem size_form0 (x : Addr) (n c : Nat) (y : UInt8) (w : World) (h0 : w.cell? x = some (.int .u8 (y.toNat : Int))) (hn : 0 < n) (hy : y ≠ 0xA7) :
    Calls Try.prog 24 #[.slice (some x) n c] w fun e w' => e = .returned (.tuple #[.int .i64 0, .int .i64 3]) ∧ Below w.heap.size w w' := by
  have hb : ((n : Int) == 0) = false := by rw [beq_eq_false_iff_ne]; omega
  have hy2 : ((y.toNat : Int) != 167) = true := ne_of (k := 167) (by omega) hy
  have h1 := fun o => ((below_alloc1 w o).cell (World.block_lt_of_cell? w _ h0)).trans h0
  clear hy
  go_enter Try.func24, Try.ntmps24
  go_wp2_with fail
  refine wp_loop_rounds 1 ?_
  rw [rounds_succ]
  go_wp2_with fail
  go_ret2
  exact ⟨rfl, (by repeat (first | exact Below.refl _ _ | assumption | apply Below.drew | apply below_drewN | (refine Below.alloc ?_ (by first | (simp; done) | omega | (simp; omega)) _)))⟩
set_option maxRecDepth 100000 in
theorem size_end1 (x : Addr) (c : Nat) (w : World) (h0 : w.cell? x = some (.int .u8 167)) :
    Calls Try.prog 24 #[.slice (some x) 1 c] w fun e w' => e = .returned (.tuple #[.int .i64 0, .int .i64 4]) ∧ Below w.heap.size w w' := by
  have h1 := fun o => ((below_alloc1 w o).cell (World.block_lt_of_cell? w _ h0)).trans h0
  go_enter Try.func24, Try.ntmps24
  go_wp2_with fail
  refine wp_loop_rounds 2 ?_
  rw [rounds_succ]
  go_wp2_with fail
  rw [rounds_succ]
  go_wp2_with fail
  go_ret2
  exact ⟨rfl, (by repeat (first | exact Below.refl _ _ | assumption | apply Below.drew | apply below_drewN | (refine Below.alloc ?_ (by first | (simp; done) | omega | (simp; omega)) _)))⟩
set_option maxRecDepth 100000 in
theorem size_form1 (x : Addr) (n c : Nat) (z : UInt8) (w : World) (h0 : w.cell? x = some (.int .u8 167)) (hz : w.cell? ⟨x.block, x.off + 1, none⟩ = some (.int .u8 (z.toNat : Int))) (hn : 1 < n) (hy : z ≠ 0x5E) :
    Calls Try.prog 24 #[.slice (some x) n c] w fun e w' => e = .returned (.tuple #[.int .i64 0, .int .i64 3]) ∧ Below w.heap.size w w' := by
  have hn0 : 0 < n := by omega
  have hb : ((n : Int) == 0) = false := by rw [beq_eq_false_iff_ne]; omega
  have hb1 : ((n : Int) == 1) = false := by rw [beq_eq_false_iff_ne]; omega
  have hy2 : ((z.toNat : Int) != 94) = true := ne_of (k := 94) (by omega) hy
  have h1 := fun o => ((below_alloc1 w o).cell (World.block_lt_of_cell? w _ h0)).trans h0
  have h2 := fun o => ((below_alloc1 w o).cell (World.block_lt_of_cell? w _ hz)).trans hz
  clear hy
  go_enter Try.func24, Try.ntmps24
  go_wp2_with fail
  refine wp_loop_rounds 2 ?_
  rw [rounds_succ]
  go_wp2_with fail
  rw [rounds_succ]
  go_wp2_with fail
  go_ret2
  exact ⟨rfl, (by repeat (first | exact Below.refl _ _ | assumption | apply Below.drew | apply below_drewN | (refine Below.alloc ?_ (by first | (simp; done) | omega | (simp; omega)) _)))⟩
set_option maxRecDepth 100000 in
theorem size_end2 (x : Addr) (n c : Nat) (w : World) (h0 : w.cell? x = some (.int .u8 167)) (hz : w.cell? ⟨x.block, x.off + 1, none⟩ = some (.int .u8 94)) (hn : 1 < n) (hn4 : n < 4) :
    Calls Try.prog 24 #[.slice (some x) n c] w fun e w' => e = .returned (.tuple #[.int .i64 0, .int .i64 4]) ∧ Below w.heap.size w w' := by
  have hn0 : 0 < n := by omega
  have hb : ((n : Int) == 0) = false := by rw [beq_eq_false_iff_ne]; omega
  have hb1 : ((n : Int) == 1) = false := by rw [beq_eq_false_iff_ne]; omega
  have h1 := fun o => ((below_alloc1 w o).cell (World.block_lt_of_cell? w _ h0)).trans h0
  have h2 := fun o => ((below_alloc1 w o).cell (World.block_lt_of_cell? w _ hz)).trans hz
  go_enter Try.func24, Try.ntmps24
  go_wp2_with fail
  refine wp_loop_rounds 3 ?_
  rw [rounds_succ]
  go_wp2_with fail
  rw [rounds_succ]
  go_wp2_with fail
  rw [rounds_succ]
  go_wp2_with fail
  go_ret2
  exact ⟨rfl, (by repeat (first | exact Below.refl _ _ | assumption | apply Below.drew | apply below_drewN | (refine Below.alloc ?_ (by first | (simp; done) | omega | (simp; omega)) _)))⟩
set_option maxRecDepth 100000 in
theorem size_rest (x : Addr) (c : Nat) (p q : UInt8) (t : List UInt8) (w : World) (h0 : w.cell? x = some (.int .u8 167)) (hz : w.cell? ⟨x.block, x.off + 1, none⟩ = some (.int .u8 94)) (hr : Row8 w (some x) (0xA7 :: 0x5E :: p :: q :: t)) (hc : t.length + 4 ≤ c) (hm : t.length ≤ 9223372036854775000) :
    Calls Try.prog 24 #[.slice (some x) (t.length + 4) c] w fun e w' => e = .returned (.tuple #[.int .i64 (if 4096 < num [p, q] then 0 else ((8 + num [p, q] : Nat) : Int)), .int .i64 (if 4096 < num [p, q] then 3 else 0)]) ∧ Below w.heap.size w w' := by
  have hb : (((t.length : Int) + 4) == 0) = false := by rw [beq_eq_false_iff_ne]; omega
  have hb1 : (((t.length : Int) + 4) == 1) = false := by rw [beq_eq_false_iff_ne]; omega
  have h1 := fun o => ((below_alloc1 w o).cell (World.block_lt_of_cell? w _ h0)).trans h0
  have h2 := fun o => ((below_alloc1 w o).cell (World.block_lt_of_cell? w _ hz)).trans hz
  have hc2 : ¬ c = 2 := by omega
  have hn4 : 4 ≤ t.length + 4 := by omega
  have r2 : Row8 w (some ⟨x.block, x.off + 2, none⟩) (p :: q :: t) := by
    rcases hr with h | ⟨y, hy, h⟩
    · simp at h
    · obtain rfl := Option.some.inj hy
      exact Row8.drop h 2
  have hn : num [p, q] < 65536 := by have := num_lt [p, q]; simpa using this
  obtain ⟨n, en⟩ : ∃ n, n = num [p, q] := ⟨_, rfl⟩
  rw [← en] at hn ⊢
  have G := Lib.hid (And.intro r2 (And.intro hc (And.intro hm en)))
  clear r2 hr hc h0 hz en
  go_enter Try.func24, Try.ntmps24
  go_wp2_with fail
  refine wp_loop_rounds 3 ?_
  rw [rounds_succ]
  go_wp2_with fail
  rw [rounds_succ]
  go_wp2_with fail
  rw [rounds_succ]
  go_wp2_with fail
  have hg2 := get_calls (some ⟨x.block, x.off + 2, none⟩) (c - 2) (p :: q :: t) 2 (w.alloc (.cells #[.int .u8 167, .int .u8 94] 5)) (G.out.1.below (below_alloc1 _ _)) (by have := G.out.2.1; simp; omega) (by omega) (by omega) (by simp)
  rw [show (p :: q :: t).take 2 = [p, q] from rfl, ← G.out.2.2.2] at hg2
  refine hg2.mono ?_
  rintro e w' ⟨rfl, rfl⟩
  have hw : IntKind.i64.wrap (n : Int) = (n : Int) := by rw [IntKind.wrap_i64]; omega
  by_cases hg : 4096 < n
  · go_wp2_with fail
    go_ret2
    exact ⟨rfl, (by repeat (first | exact Below.refl _ _ | assumption | apply Below.drew | apply below_drewN | (refine Below.alloc ?_ (by first | (simp; done) | omega | (simp; omega)) _)))⟩
  · go_wp2_with fail
    go_ret2
    exact ⟨rfl, (by repeat (first | exact Below.refl _ _ | assumption | apply Below.drew | apply below_drewN | (refine Below.alloc ?_ (by first | (simp; done) | omega | (simp; omega)) _)))⟩

theorem size_calls (a : Option Addr) (c : Nat) (l : List UInt8) (w : World) (hr : Row8 w a l) (hc : l.length ≤ c) (hm : l.length ≤ 9223372036854775000) :
    Calls Try.prog 24 #[.slice a l.length c] w fun e w' => e = .returned (.tuple #[.int .i64 ((sizeF l).1 : Int), .int .i64 ((sizeF l).2 : Int)]) ∧ Below w.heap.size w w' := by
  have hx : l ≠ [] → ∃ x, a = some x ∧ ∀ i : Nat, ∀ h : i < l.length, w.cell? (x.add i) = some (.int .u8 (l[i].toNat : Int)) := by
    intro h; rcases hr with h' | h'
    · exact absurd h' h
    · exact h'
  match l, hr, hc, hm, hx with
  | [], _, _, _, _ => exact size_end0 a c w
  | y :: l, hr, hc, hm, hx =>
    obtain ⟨x, rfl, hcell⟩ := hx (by simp)
    have c0 := hcell 0 (by simp)
    have e0 : x.add 0 = x := by simp [Addr.add]
    rw [e0] at c0
    by_cases hy : y = 0xA7
    · subst hy
      match l, hr, hc, hm, hcell with
      | [], _, _, _, _ =>
        have := size_end1 x c w c0
        simpa [sizeF] using this
      | z :: l, hr, hc, hm, hcell =>
        have c1 : w.cell? ⟨x.block, x.off + 1, none⟩ = some (.int .u8 (z.toNat : Int)) := hcell 1 (by simp)
        by_cases hz : z = 0x5E
        · subst hz
          match l, hr, hc, hm with
          | [], _, _, _ =>
            have := size_end2 x 2 c w c0 c1 (by omega) (by omega)
            simpa [sizeF] using this
          | [p], _, _, _ =>
            have := size_end2 x 3 c w c0 c1 (by omega) (by omega)
            simpa [sizeF] using this
          | p :: q :: t, hr, hc, hm =>
            have := size_rest x c p q t w c0 c1 hr (by simpa using hc) (by simp at hm; omega)
            have e1 : ((sizeF (0xA7 :: 0x5E :: p :: q :: t)).1 : Int) = if 4096 < num [p, q] then 0 else ((8 + num [p, q] : Nat) : Int) := by
              simp only [sizeF, ne_eq, not_true_eq_false, if_false]
              split <;> rfl
            have e2 : ((sizeF (0xA7 :: 0x5E :: p :: q :: t)).2 : Int) = if 4096 < num [p, q] then 3 else 0 := by
              simp only [sizeF, ne_eq, not_true_eq_false, if_false]
              split <;> rfl
            rw [e1, e2]
            exact this
        · have := size_form1 x (l.length + 1 + 1) c z w c0 c1 (by omega) hz
          simpa [sizeF, hz] using this
    · have := size_form0 x (l.length + 1) c y w c0 (by omega) hy
      simpa [sizeF, hy] using this
end Go.Proofs.Ytjngekbgfinidaa.Fr
