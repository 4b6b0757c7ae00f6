/- The walks of: a configuration is made. -/
import Derived.Test.YtcgbjodeklknoaaDoorVQuo
import Derived.OwnWalk
namespace Go.Proofs.YtcgbjodeklknoaaDoor.Vo
set_option linter.unusedVariables false
set_option linter.unusedSimpArgs false
open Go.RowKit
open Go.Proofs.YtcgbjodeklknoaaDoor.Bit

theorem size1 : (Tryd.prog.info? 5).map (·.size) = some 1 := by kernel_rfl
theorem one_cells (l : List UInt8) : ∀ v ∈ l.map v8, v.oneCell' = true := by
  intro v hv
  obtain ⟨x, _, rfl⟩ := List.mem_map.1 hv
  rfl
theorem cells_row {w : World} {A : Option Addr} {l : List UInt8} (h : Row8 w A l) (n : Nat) : 0 < ((l.take n).map v8).length → ∃ ad, A = some ad ∧ ∀ (j : Nat) (v : Value), ((l.take n).map v8)[j]? = some v → w.cell? (ad.add j) = some v := by
  intro hp
  rcases h with rfl | ⟨x, rfl, hc⟩
  · simp at hp
  · refine ⟨x, rfl, fun j v hj => ?_⟩
    have hjl : j < (l.take n).length := by
      have := (List.getElem?_eq_some_iff.1 hj).1
      simpa using this
    have hjl2 : j < l.length := by rw [List.length_take] at hjl; omega
    rw [hc j hjl2]
    simp [List.getElem?_take, hjl2] at hj
    obtain ⟨_, hj⟩ := hj
    rw [← hj]
    rfl
/-- The configuration that is made of votes. -/
def ofL (e r q : Nat) (l : List UInt8) : Cf :=
  ⟨e, r, q, (l.getD 0 0).toNat, (l.getD 1 0).toNat, (l.getD 2 0).toNat, (l.getD 3 0).toNat, (l.getD 4 0).toNat, (l.getD 5 0).toNat, (l.getD 6 0).toNat, (l.getD 7 0).toNat⟩
theorem ofL_ok {e r q : Nat} (l : List UInt8) (he : e < 4294967296) (hr : r < 256) (hq : q < 256) : (ofL e r q l).Ok := by
  refine ⟨he, hr, hq, ?_⟩
  intro x hx
  simp only [ofL, Cf.V, List.mem_cons, List.not_mem_nil, or_false] at hx
  rcases hx with rfl | rfl | rfl | rfl | rfl | rfl | rfl | rfl <;> exact UInt8.toNat_lt _
theorem splice_ofL (e r q : Nat) (l : List UInt8) :
    splice [.int .u32 (e : Int), .int .u8 (r : Int), .int .u8 (q : Int), .int .u8 0, .int .u8 0, .int .u8 0, .int .u8 0, .int .u8 0, .int .u8 0, .int .u8 0, .int .u8 0] 3 ((l.take 8).map v8) = (ofL e r q l).cells := by
  match l with
  | [] => rfl
  | [_] => rfl
  | [_, _] => rfl
  | [_, _, _] => rfl
  | [_, _, _, _] => rfl
  | [_, _, _, _, _] => rfl
  | [_, _, _, _, _, _] => rfl
  | [_, _, _, _, _, _, _] => rfl
  | _ :: _ :: _ :: _ :: _ :: _ :: _ :: _ :: _ => rfl
def Cf.zero : Cf := ⟨0, 0, 0, 0, 0, 0, 0, 0, 0, 0, 0⟩
/-- What is made, and its error. -/
def makeF (e r q : Nat) (l : List UInt8) : Cf × Nat := if l.length ≤ 8 ∧ mayF (ofL e r q l) = true then (ofL e r q l, 0) else (Cf.zero, 16)
theorem boxS_heap {w : World} {b : Nat} {c : Cf} (h : w.heap[b]? = some (.cells c.cells.toArray 25 (0, 0))) : BoxS b c w := by
  have k : ∀ i v, c.cells[i]? = some v → w.cell? ⟨b, i, none⟩ = some v := by
    intro i v hi
    have := cell_block (i := i) h
    by_cases h0 : i = 0
    · subst h0; simp only [Addr.add, if_true] at this; rw [← hi, this]; rfl
    · simp only [Addr.add, h0, if_false] at this; rw [← hi, ← List.getElem?_toArray, ← this]; simp
  exact ⟨k 0 _ rfl, k 1 _ rfl, k 2 _ rfl, k 3 _ rfl, k 4 _ rfl, k 5 _ rfl, k 6 _ rfl, k 7 _ rfl, k 8 _ rfl, k 9 _ rfl, k 10 _ rfl⟩
theorem free_block {w : World} {b : Nat} {C : Array Value} {T : TypeId} (h : w.heap[b]? = some (.cells C T (0, 0))) (i : Nat) : w.frozen? ⟨b, i, none⟩ = false := by
  simp [World.frozen?, h]

theorem below_set11 {B b : Nat} {w w1 : World} (h : Below B w w1) (hb : B ≤ b) (v0 v1 v2 v3 v4 v5 v6 v7 v8 v9 v10 : Value) : Below B w (((((((((((w1.setCell ⟨b, 0, none⟩ v0).setCell ⟨b, 1, none⟩ v1).setCell ⟨b, 2, none⟩ v2).setCell ⟨b, 3, none⟩ v3).setCell ⟨b, 4, none⟩ v4).setCell ⟨b, 5, none⟩ v5).setCell ⟨b, 6, none⟩ v6).setCell ⟨b, 7, none⟩ v7).setCell ⟨b, 8, none⟩ v8).setCell ⟨b, 9, none⟩ v9).setCell ⟨b, 10, none⟩ v10) := (((((((((((h.setCell (p := ⟨b, 0, none⟩) hb v0).setCell (p := ⟨b, 1, none⟩) hb v1).setCell (p := ⟨b, 2, none⟩) hb v2).setCell (p := ⟨b, 3, none⟩) hb v3).setCell (p := ⟨b, 4, none⟩) hb v4).setCell (p := ⟨b, 5, none⟩) hb v5).setCell (p := ⟨b, 6, none⟩) hb v6).setCell (p := ⟨b, 7, none⟩) hb v7).setCell (p := ⟨b, 8, none⟩) hb v8).setCell (p := ⟨b, 9, none⟩) hb v9).setCell (p := ⟨b, 10, none⟩) hb v10)

set_option maxHeartbeats 2000000 in
set_option maxRecDepth 100000 in
theorem vmake_calls (e r q : Nat) (a : Option Addr) (cap : Nat) (l : List UInt8) (he : e < 4294967296) (hr : r < 256) (hq : q < 256) (w : World) (hrow : Row8 w a l) (hl : l.length ≤ 9223372036854775807) :
    Calls Tryd.prog 12 #[.int .u32 (e : Int), .int .u8 (r : Int), .int .u8 (q : Int), .slice a l.length cap] w fun z w' => z = .returned (.tuple #[(makeF e r q l).1.val, .int .i64 ((makeF e r q l).2 : Int)]) ∧ Below w.heap.size w w' := by
  have G := Lib.hid (And.intro hrow (And.intro he (And.intro hr hq)))
  clear hrow he hr hq
  obtain ⟨M, hM⟩ : ∃ M, M = makeF e r q l := ⟨_, rfl⟩
  rw [← hM]
  have HM := Lib.hid hM
  clear hM
  have hA : ((w.alloc (.cells #[.int .u32 0, .int .u8 0, .int .u8 0, .int .u8 0, .int .u8 0, .int .u8 0, .int .u8 0, .int .u8 0, .int .u8 0, .int .u8 0, .int .u8 0] 25)).alloc (.cells #[.int .u32 (e : Int), .int .u8 (r : Int), .int .u8 (q : Int), .int .u8 0, .int .u8 0, .int .u8 0, .int .u8 0, .int .u8 0, .int .u8 0, .int .u8 0, .int .u8 0] 25)).heap[w.heap.size]? = some (.cells ([.int .u32 0, .int .u8 0, .int .u8 0, .int .u8 0, .int .u8 0, .int .u8 0, .int .u8 0, .int .u8 0, .int .u8 0, .int .u8 0, .int .u8 0] : List Value).toArray 25 (0, 0)) := by
    rw [heap_alloc_old _ _ (by simp), heap_alloc_new]
  have hB : ((w.alloc (.cells #[.int .u32 0, .int .u8 0, .int .u8 0, .int .u8 0, .int .u8 0, .int .u8 0, .int .u8 0, .int .u8 0, .int .u8 0, .int .u8 0, .int .u8 0] 25)).alloc (.cells #[.int .u32 (e : Int), .int .u8 (r : Int), .int .u8 (q : Int), .int .u8 0, .int .u8 0, .int .u8 0, .int .u8 0, .int .u8 0, .int .u8 0, .int .u8 0, .int .u8 0] 25)).heap[w.heap.size + 1]? = some (.cells ([.int .u32 (e : Int), .int .u8 (r : Int), .int .u8 (q : Int), .int .u8 0, .int .u8 0, .int .u8 0, .int .u8 0, .int .u8 0, .int .u8 0, .int .u8 0, .int .u8 0] : List Value).toArray 25 (0, 0)) := by
    have := heap_alloc_new (w.alloc (.cells #[.int .u32 0, .int .u8 0, .int .u8 0, .int .u8 0, .int .u8 0, .int .u8 0, .int .u8 0, .int .u8 0, .int .u8 0, .int .u8 0, .int .u8 0] 25)) (.cells #[.int .u32 (e : Int), .int .u8 (r : Int), .int .u8 (q : Int), .int .u8 0, .int .u8 0, .int .u8 0, .int .u8 0, .int .u8 0, .int .u8 0, .int .u8 0, .int .u8 0] 25)
    rwa [World.size_alloc] at this
  have hbel : Below w.heap.size w ((w.alloc (.cells #[.int .u32 0, .int .u8 0, .int .u8 0, .int .u8 0, .int .u8 0, .int .u8 0, .int .u8 0, .int .u8 0, .int .u8 0, .int .u8 0, .int .u8 0] 25)).alloc (.cells #[.int .u32 (e : Int), .int .u8 (r : Int), .int .u8 (q : Int), .int .u8 0, .int .u8 0, .int .u8 0, .int .u8 0, .int .u8 0, .int .u8 0, .int .u8 0, .int .u8 0] 25)) := (by repeat (first | exact Below.refl _ _ | assumption | apply Below.drew | apply below_drewN | (refine Below.alloc ?_ (by first | (simp; done) | omega | (simp; omega)) _)))
  have hz : ((w.alloc (.cells #[.int .u32 0, .int .u8 0, .int .u8 0, .int .u8 0, .int .u8 0, .int .u8 0, .int .u8 0, .int .u8 0, .int .u8 0, .int .u8 0, .int .u8 0] 25)).alloc (.cells #[.int .u32 (e : Int), .int .u8 (r : Int), .int .u8 (q : Int), .int .u8 0, .int .u8 0, .int .u8 0, .int .u8 0, .int .u8 0, .int .u8 0, .int .u8 0, .int .u8 0] 25)).heap.size = w.heap.size + 2 := by simp
  have HB := Lib.hid (And.intro hB (And.intro hA (G.out.1.below hbel)))
  have HL := Lib.hid (And.intro hbel hz)
  clear hA hB hbel hz
  obtain ⟨c, hc⟩ : ∃ c, c = ofL e r q l := ⟨_, rfl⟩
  have hok : c.Ok := by rw [hc]; exact ofL_ok l G.out.2.1 G.out.2.2.1 G.out.2.2.2
  have HC := Lib.hid (And.intro hc hok)
  clear hc hok
  by_cases hle : l.length ≤ 8
  · have hmin : min 8 l.length = l.length := by omega
    go_enter Tryd.func12, Tryd.ntmps12
    go_wp2_with (refine wpList_copy_splice rfl (Operand.tmp 16) (Operand.tmp 17) 26 26 rfl 5 Tryd.underlying26 size1 (some ⟨w.heap.size + 1, 3, none⟩) a 8 8 l.length cap rfl rfl (w.heap.size + 1) 3 [.int .u32 (e : Int), .int .u8 (r : Int), .int .u8 (q : Int), .int .u8 0, .int .u8 0, .int .u8 0, .int .u8 0, .int .u8 0, .int .u8 0, .int .u8 0, .int .u8 0] 25 HB.out.1 ((l.take 8).map v8) (by rw [List.length_map, List.length_take]; exact Nat.min_comm _ _) (fun h => ⟨rfl, cells_row HB.out.2.2 8 h⟩) (by rw [List.length_map, List.length_take]; show 3 + min 8 l.length ≤ 11; omega) (one_cells _) (w.heap.size + 1) _ (Below.refl _ _) (Nat.le_refl _) ?_; intro w2 hcp hb2; have hS := boxS_heap (c := c) (by rw [HC.out.1, ← splice_ofL]; exact hcp.out); have H2 := Lib.hid (And.intro hb2 hS); clear hcp hb2; obtain ⟨k0, k1, k2, k3, k4, k5, k6, k7, k8, k9, k10⟩ := hS)
    have hb3 := H2.out.1
    have hz := HL.out.2
    have hzero := HB.out.2.1
    refine (vmay_calls c HC.out.2 w2).mono ?_
    rintro z w3 ⟨rfl, hb⟩
    have hz2 := hb3.size
    have hzero3 := (hb.block w.heap.size (by omega)).trans ((hb3.block w.heap.size (by omega)).trans hzero)
    have hS3 := H2.out.2.below hb
    have hbw : Below w.heap.size w w3 := HL.out.1.trans ((hb3.mono (by omega)).trans (hb.mono (by omega)))
    have H3 := Lib.hid (And.intro hbw (And.intro hzero3 hS3))
    clear hb3 hz hzero hb hz2 hzero3 hS3 hbw k0 k1 k2 k3 k4 k5 k6 k7 k8 k9 k10
    obtain ⟨z0, z1, z2, z3, z4, z5, z6, z7, z8, z9, z10⟩ := boxS_heap (c := Cf.zero) H3.out.2.1
    have f0 := free_block H3.out.2.1 0
    have f1 := free_block H3.out.2.1 1
    have f2 := free_block H3.out.2.1 2
    have f3 := free_block H3.out.2.1 3
    have f4 := free_block H3.out.2.1 4
    have f5 := free_block H3.out.2.1 5
    have f6 := free_block H3.out.2.1 6
    have f7 := free_block H3.out.2.1 7
    have f8 := free_block H3.out.2.1 8
    have f9 := free_block H3.out.2.1 9
    have f10 := free_block H3.out.2.1 10
    cases hm : mayF c with
    | true =>
      obtain ⟨k0, k1, k2, k3, k4, k5, k6, k7, k8, k9, k10⟩ := H3.out.2.2
      have HX := Lib.hid hm
      clear hm
      go_wp2_with fail
      refine bodyPost_ret (v := .tuple #[.agg #[.int .u32 (c.e : Int), .int .u8 (c.r : Int), .int .u8 (c.q : Int), .int .u8 (c.v0 : Int), .int .u8 (c.v1 : Int), .int .u8 (c.v2 : Int), .int .u8 (c.v3 : Int), .int .u8 (c.v4 : Int), .int .u8 (c.v5 : Int), .int .u8 (c.v6 : Int), .int .u8 (c.v7 : Int)], .int .i64 0]) (by simp [results, Tryd.results12, go_sem, z0, z1, z2, z3, z4, z5, z6, z7, z8, z9, z10]) rfl ⟨?_, below_set11 H3.out.1 (Nat.le_refl _) _ _ _ _ _ _ _ _ _ _ _⟩
      rw [HM.out]; unfold makeF; rw [if_pos ⟨hle, by rw [← HC.out.1]; exact HX.out⟩, ← HC.out.1]; rfl
    | false =>
      have HX := Lib.hid hm
      clear hm
      go_wp2_with fail
      refine bodyPost_ret (v := .tuple #[.agg #[.int .u32 0, .int .u8 0, .int .u8 0, .int .u8 0, .int .u8 0, .int .u8 0, .int .u8 0, .int .u8 0, .int .u8 0, .int .u8 0, .int .u8 0], .int .i64 16]) (by simp [results, Tryd.results12, go_sem, z0, z1, z2, z3, z4, z5, z6, z7, z8, z9, z10]) rfl ⟨?_, below_set11 H3.out.1 (Nat.le_refl _) _ _ _ _ _ _ _ _ _ _ _⟩
      rw [HM.out]; unfold makeF; rw [if_neg (fun h => by rw [← HC.out.1, HX.out] at h; exact absurd h.2 (by decide))]; rfl
  · have hmin : min 8 l.length = 8 := by omega
    have hlt : (8 : Int) < (l.length : Int) := by omega
    go_enter Tryd.func12, Tryd.ntmps12
    go_wp2_with (refine wpList_copy_splice rfl (Operand.tmp 16) (Operand.tmp 17) 26 26 rfl 5 Tryd.underlying26 size1 (some ⟨w.heap.size + 1, 3, none⟩) a 8 8 l.length cap rfl rfl (w.heap.size + 1) 3 [.int .u32 (e : Int), .int .u8 (r : Int), .int .u8 (q : Int), .int .u8 0, .int .u8 0, .int .u8 0, .int .u8 0, .int .u8 0, .int .u8 0, .int .u8 0, .int .u8 0] 25 HB.out.1 ((l.take 8).map v8) (by rw [List.length_map, List.length_take]; exact Nat.min_comm _ _) (fun h => ⟨rfl, cells_row HB.out.2.2 8 h⟩) (by rw [List.length_map, List.length_take]; show 3 + min 8 l.length ≤ 11; omega) (one_cells _) (w.heap.size + 1) _ (Below.refl _ _) (Nat.le_refl _) ?_; intro w2 hcp hb2; have hS := boxS_heap (c := c) (by rw [HC.out.1, ← splice_ofL]; exact hcp.out); have H2 := Lib.hid (And.intro hb2 hS); clear hcp hb2; obtain ⟨k0, k1, k2, k3, k4, k5, k6, k7, k8, k9, k10⟩ := hS; have hb3 := H2.out.1; have hz := HL.out.2; have H3 := Lib.hid (And.intro (HL.out.1.trans (hb3.mono (by omega)) : Below w.heap.size w w2) ((hb3.block w.heap.size (by omega)).trans HB.out.2.1)); clear hb3 hz; obtain ⟨z0, z1, z2, z3, z4, z5, z6, z7, z8, z9, z10⟩ := boxS_heap (c := Cf.zero) H3.out.2; have f0 := free_block H3.out.2 0; have f1 := free_block H3.out.2 1; have f2 := free_block H3.out.2 2; have f3 := free_block H3.out.2 3; have f4 := free_block H3.out.2 4; have f5 := free_block H3.out.2 5; have f6 := free_block H3.out.2 6; have f7 := free_block H3.out.2 7; have f8 := free_block H3.out.2 8; have f9 := free_block H3.out.2 9; have f10 := free_block H3.out.2 10)
    refine bodyPost_ret (v := .tuple #[.agg #[.int .u32 0, .int .u8 0, .int .u8 0, .int .u8 0, .int .u8 0, .int .u8 0, .int .u8 0, .int .u8 0, .int .u8 0, .int .u8 0, .int .u8 0], .int .i64 16]) (by simp [results, Tryd.results12, go_sem, z0, z1, z2, z3, z4, z5, z6, z7, z8, z9, z10]) rfl ⟨?_, below_set11 H3.out.1 (Nat.le_refl _) _ _ _ _ _ _ _ _ _ _ _⟩
    rw [HM.out]; unfold makeF; rw [if_neg (fun h => hle h.1)]; rfl
end Go.Proofs.YtcgbjodeklknoaaDoor.Vo
