/- The walks of the program's reader: a key. -/
import Derived.Test.YtinilglljjffjaaCR2
import Derived.Laws.CopyOwn
namespace Go.Proofs.Ytinilglljjffjaa.Cd
set_option linter.unusedVariables false
set_option linter.unusedSimpArgs false
open Go.RowKit
open Go.Proofs.Ytinilglljjffjaa.Num

def zero8 : List UInt8 := [0, 0, 0, 0, 0, 0, 0, 0]
/-- A key. -/
def keyR (l : List UInt8) : List UInt8 × Nat × Nat := if l.length < 8 then (zero8, 0, 4) else (l.take 8, 8, 0)
theorem keyR_fits (l : List UInt8) : (keyR l).2.1 ≤ l.length ∧ (keyR l).2.2 ≤ 17 := by
  unfold keyR
  split
  · exact ⟨Nat.zero_le _, by decide⟩
  · refine ⟨?_, Nat.zero_le _⟩
    show 8 ≤ l.length
    omega
theorem keyR_len (l : List UInt8) : (keyR l).1.length = 8 := by
  unfold keyR
  split
  · rfl
  · show (l.take 8).length = 8
    rw [List.length_take]; omega
/-- Block b is a key. -/
def KeyAt (b : Nat) (k : List UInt8) (W : World) : Prop := W.heap[b]? = some (.cells (k.map v8).toArray 55 (0, 0))
theorem KeyAt.cells {b : Nat} {x0 x1 x2 x3 x4 x5 x6 x7 : UInt8} {W : World} (h : KeyAt b [x0, x1, x2, x3, x4, x5, x6, x7] W) : W.cell? ⟨b, 0, none⟩ = some (.int .u8 (x0.toNat : Int)) ∧ W.cell? ⟨b, 1, none⟩ = some (.int .u8 (x1.toNat : Int)) ∧ W.cell? ⟨b, 2, none⟩ = some (.int .u8 (x2.toNat : Int)) ∧ W.cell? ⟨b, 3, none⟩ = some (.int .u8 (x3.toNat : Int)) ∧ W.cell? ⟨b, 4, none⟩ = some (.int .u8 (x4.toNat : Int)) ∧ W.cell? ⟨b, 5, none⟩ = some (.int .u8 (x5.toNat : Int)) ∧ W.cell? ⟨b, 6, none⟩ = some (.int .u8 (x6.toNat : Int)) ∧ W.cell? ⟨b, 7, none⟩ = some (.int .u8 (x7.toNat : Int)) := by
  unfold KeyAt at h
  simp [World.cell?, h, v8]
theorem KeyAt.zero {b : Nat} {W : World} (h : KeyAt b zero8 W) : W.cell? ⟨b, 0, none⟩ = some (.int .u8 0) ∧ W.cell? ⟨b, 1, none⟩ = some (.int .u8 0) ∧ W.cell? ⟨b, 2, none⟩ = some (.int .u8 0) ∧ W.cell? ⟨b, 3, none⟩ = some (.int .u8 0) ∧ W.cell? ⟨b, 4, none⟩ = some (.int .u8 0) ∧ W.cell? ⟨b, 5, none⟩ = some (.int .u8 0) ∧ W.cell? ⟨b, 6, none⟩ = some (.int .u8 0) ∧ W.cell? ⟨b, 7, none⟩ = some (.int .u8 0) := h.cells
theorem KeyAt.free {b : Nat} {k : List UInt8} {W : World} (h : KeyAt b k W) (i : Nat) : W.frozen? ⟨b, i, none⟩ = false := by
  unfold KeyAt at h
  simp [World.frozen?, h]
theorem KeyAt.below {b : Nat} {k : List UInt8} {W W' : World} (h : KeyAt b k W) (hb : Below W.heap.size W W') : KeyAt b k W' :=
  (hb.block b (Array.getElem?_eq_some_iff.1 h).1).trans h
theorem below_set8 {B b : Nat} {w w1 : World} (h : Below B w w1) (hb : B ≤ b) (v0 v1 v2 v3 v4 v5 v6 v7 : Value) : Below B w ((((((((w1.setCell ⟨b, 0, none⟩ v0).setCell ⟨b, 1, none⟩ v1).setCell ⟨b, 2, none⟩ v2).setCell ⟨b, 3, none⟩ v3).setCell ⟨b, 4, none⟩ v4).setCell ⟨b, 5, none⟩ v5).setCell ⟨b, 6, none⟩ v6).setCell ⟨b, 7, none⟩ v7) := ((((((((h.setCell (p := ⟨b, 0, none⟩) hb v0).setCell (p := ⟨b, 1, none⟩) hb v1).setCell (p := ⟨b, 2, none⟩) hb v2).setCell (p := ⟨b, 3, none⟩) hb v3).setCell (p := ⟨b, 4, none⟩) hb v4).setCell (p := ⟨b, 5, none⟩) hb v5).setCell (p := ⟨b, 6, none⟩) hb v6).setCell (p := ⟨b, 7, none⟩) hb v7)
theorem one_v8 (m : List UInt8) : ∀ v ∈ m.map v8, v.oneCell' = true := by
  intro v hv
  obtain ⟨x, _, rfl⟩ := List.mem_map.1 hv
  rfl
theorem size8i : (Try.prog.info? 5).map (·.size) = some 1 := by kernel_rfl
theorem row_cells {W : World} {A : Option Addr} {m : List UInt8} (h : Row8 W A m) (hp : 0 < m.length) : ∃ ad, A = some ad ∧ ∀ (j : Nat) v, (m.map v8)[j]? = some v → W.cell? (ad.add j) = some v := by
  rcases h with rfl | ⟨x, rfl, hc⟩
  · simp at hp
  · refine ⟨x, rfl, fun j v hv => ?_⟩
    have hj : j < m.length := by
      have := (List.getElem?_eq_some_iff.1 hv).1
      simpa using this
    rw [hc j hj]
    simp [hj, v8] at hv
    rw [← hv]
theorem zeros2 (W : World) : KeyAt W.heap.size zero8 ((W.alloc (.cells #[.int .u8 0, .int .u8 0, .int .u8 0, .int .u8 0, .int .u8 0, .int .u8 0, .int .u8 0, .int .u8 0] 55)).alloc (.cells #[.int .u8 0, .int .u8 0, .int .u8 0, .int .u8 0, .int .u8 0, .int .u8 0, .int .u8 0, .int .u8 0] 55)) ∧ KeyAt (W.heap.size + 1) zero8 ((W.alloc (.cells #[.int .u8 0, .int .u8 0, .int .u8 0, .int .u8 0, .int .u8 0, .int .u8 0, .int .u8 0, .int .u8 0] 55)).alloc (.cells #[.int .u8 0, .int .u8 0, .int .u8 0, .int .u8 0, .int .u8 0, .int .u8 0, .int .u8 0, .int .u8 0] 55)) ∧ Below W.heap.size W ((W.alloc (.cells #[.int .u8 0, .int .u8 0, .int .u8 0, .int .u8 0, .int .u8 0, .int .u8 0, .int .u8 0, .int .u8 0] 55)).alloc (.cells #[.int .u8 0, .int .u8 0, .int .u8 0, .int .u8 0, .int .u8 0, .int .u8 0, .int .u8 0, .int .u8 0] 55)) := by
  refine ⟨?_, ?_, (by repeat (first | exact Below.refl _ _ | assumption | apply Below.drew | apply below_drewN | (refine Below.alloc ?_ (by first | (simp; done) | omega | (simp; omega)) _)))⟩
  · unfold KeyAt
    rw [heap_alloc_old _ _ (by simp), heap_alloc_new]; rfl
  · have := heap_alloc_new (W.alloc (.cells #[.int .u8 0, .int .u8 0, .int .u8 0, .int .u8 0, .int .u8 0, .int .u8 0, .int .u8 0, .int .u8 0] 55)) (.cells #[.int .u8 0, .int .u8 0, .int .u8 0, .int .u8 0, .int .u8 0, .int .u8 0, .int .u8 0, .int .u8 0] 55)
    rw [World.size_alloc] at this
    exact this
set_option maxHeartbeats 1000000 in
set_option maxRecDepth 100000 in
theorem ckey_calls (A : Option Addr) (c : Nat) (l : List UInt8) (W : World) (hr : Row8 W A l) (hm : l.length ≤ 9223372036854775807) :
    Calls Try.prog 51 #[.slice A l.length c] W fun e W' => e = .returned (.tuple #[keyV (keyR l).1, .int .i64 ((keyR l).2.1 : Int), .int .i64 ((keyR l).2.2 : Int)]) ∧ Below W.heap.size W W' := by
  obtain ⟨hz1, hz2, hb⟩ := zeros2 W
  have G := Lib.hid (And.intro hz1 (And.intro hz2 (And.intro hb (hr.below hb))))
  clear hz1 hz2 hb hr
  by_cases h8 : l.length < 8
  · have hR : keyR l = (zero8, 0, 4) := by unfold keyR; rw [if_pos h8]
    rw [hR]
    have h8i : (l.length : Int) < 8 := by omega
    obtain ⟨m0, m1, m2, m3, m4, m5, m6, m7⟩ := G.out.2.1.zero
    have f0 := G.out.1.free 0
    have f1 := G.out.1.free 1
    have f2 := G.out.1.free 2
    have f3 := G.out.1.free 3
    have f4 := G.out.1.free 4
    have f5 := G.out.1.free 5
    have f6 := G.out.1.free 6
    have f7 := G.out.1.free 7
    have hbel := G.out.2.2.1
    go_enter Try.func51, Try.ntmps51
    go_wp2_with fail
    refine bodyPost_ret (v := .tuple #[keyV zero8, .int .i64 0, .int .i64 4]) (by simp [results, Try.results51, go_sem, keyV, zero8, v8]) rfl ⟨rfl, ?_⟩
    exact hbel
  · have hR : keyR l = (l.take 8, 8, 0) := by unfold keyR; rw [if_neg h8]
    rw [hR]
    have h8i : ¬ (l.length : Int) < 8 := by omega
    have ht8 : (l.take 8).length = 8 := by rw [List.length_take]; omega
    have hmin : ((l.take 8).map v8).length = Nat.min l.length 8 := by rw [List.length_map, List.length_take]; exact Nat.min_comm _ _
    have hfit : 0 + ((l.take 8).map v8).length ≤ (zero8.map v8).length := by rw [List.length_map, ht8]; decide
    have hspl : splice (zero8.map v8) 0 ((l.take 8).map v8) = (l.take 8).map v8 := by
      unfold splice
      rw [List.length_map, ht8]
      simp [zero8]
    have htk := fun W' (h : Row8 W' A l) => h.take 8
    have hmn : min 8 l.length = 8 := by omega
    obtain ⟨k, hk⟩ : ∃ k, k = l.take 8 := ⟨_, rfl⟩
    rw [← hk] at ht8 hmin hfit hspl htk ⊢
    have HS := Lib.hid (And.intro ht8 (And.intro hmin (And.intro hfit (And.intro hspl (htk _ G.out.2.2.2)))))
    clear ht8 hmin hfit hspl htk hk hR
    obtain ⟨x0, x1, x2, x3, x4, x5, x6, x7, rfl⟩ := eight HS.out.1
    go_enter Try.func51, Try.ntmps51
    go_wp2_with (refine wpList_copy_splice rfl (Operand.tmp 11) (Operand.tmp 12) 25 25 rfl 5 Try.underlying25 size8i (some ⟨W.heap.size + 1, 0, none⟩) A 8 8 l.length c rfl rfl (W.heap.size + 1) 0 (zero8.map v8) 55 G.out.2.1 (([x0, x1, x2, x3, x4, x5, x6, x7] : List UInt8).map v8) HS.out.2.1 (fun h => ⟨rfl, row_cells HS.out.2.2.2.2 (by simp)⟩) HS.out.2.2.1 (one_v8 _) (W.heap.size + 1) _ (Below.refl _ _) (Nat.le_refl _) ?_; intro w2 hcp hb2; have hc2 := hcp.out; rw [HS.out.2.2.2.1] at hc2; have hz2 : KeyAt W.heap.size zero8 w2 := (hb2.block _ (by omega)).trans G.out.1; have H := Lib.hid (And.intro hz2 (And.intro (show KeyAt (W.heap.size + 1) [x0, x1, x2, x3, x4, x5, x6, x7] w2 from hc2) (G.out.2.2.1.trans (hb2.mono (by omega)))));  clear hcp hb2 hc2 hz2; obtain ⟨m0, m1, m2, m3, m4, m5, m6, m7⟩ := H.out.2.1.cells; obtain ⟨z0, z1, z2, z3, z4, z5, z6, z7⟩ := H.out.1.zero; have f0 := H.out.1.free 0; have f1 := H.out.1.free 1; have f2 := H.out.1.free 2; have f3 := H.out.1.free 3; have f4 := H.out.1.free 4; have f5 := H.out.1.free 5; have f6 := H.out.1.free 6; have f7 := H.out.1.free 7)
    refine bodyPost_ret (v := .tuple #[keyV [x0, x1, x2, x3, x4, x5, x6, x7], .int .i64 8, .int .i64 0]) (by simp [results, Try.results51, go_sem, keyV, v8, z0, z1, z2, z3, z4, z5, z6, z7]) rfl ⟨rfl, ?_⟩
    exact below_set8 H.out.2.2 (Nat.le_refl _) _ _ _ _ _ _ _ _
end Go.Proofs.Ytinilglljjffjaa.Cd
