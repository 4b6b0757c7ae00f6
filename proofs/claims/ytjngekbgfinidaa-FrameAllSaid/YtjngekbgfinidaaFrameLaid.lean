/- The walk of a frame's beginning. -/
import Derived.Test.YtjngekbgfinidaaFramePlain
import Derived.Test.YtjngekbgfinidaaGetWalk
import Derived.Test.YtjngekbgfinidaaCrcSum
import Derived.Deep.RegionHeld3
import Derived.Laws.CopyOwn
import Derived.Laws.Rows
import Derived.Deep.MidRow
namespace Go.Proofs.Ytjngekbgfinidaa.Fr
set_option linter.unusedVariables false
set_option linter.unusedSimpArgs false
open Go.RowKit
open Go.Proofs.Ytjngekbgfinidaa.Num Go.Proofs.Ytjngekbgfinidaa.Crc

theorem put_nil {w W : World} (hW : Below w.heap.size w W) (n k : Nat) (ki : Int) (hki : ki = (k : Int)) (hk : k ≤ 8) :
    Calls Try.prog 31 #[.slice none 0 0, .int .u64 (n : Int), .int .i64 ki] W fun e w' => ∃ A cc, e = .returned (.slice A k cc) ∧ Row8 w' A (be k n) ∧ Below w.heap.size w w' ∧ Hid (∀ (j : Nat) (o : Obj), W.heap[j]? = some o → w'.heap[j]? = some o) ∧ w.heap.size ≤ w'.heap.size ∧ W.heap.size ≤ w'.heap.size := by
  subst hki
  refine (put_calls none 0 [] n k W (.inl rfl) (fun _ => rfl) (by simp) hk).mono ?_
  rintro e w' ⟨v, rfl, hown, hb⟩
  rw [List.nil_append] at hown
  obtain ⟨A, cc, rfl, hrow, _⟩ := hown.row
  exact ⟨A, cc, by rw [length_be], hrow, hW.trans (hb.mono hW.size), Lib.hid (carry hb), Nat.le_trans hW.size hb.size, hb.size⟩
theorem results_cell_mid {P : Program} {fn : Func} {p : Tmp} {ty : TypeId} (h : fn.results = #[.cell p ty]) (tmps : Array Value) (w : World) (g o : Nat) (cs : List Value) (d : TypeDesc)
    (hp : tmps.getD p undef = .pointer (some ⟨g, o, none⟩)) (hg : w.rangeAt g o cs)
    (hu : P.underlying ty = some d) (hd : d.isRow = true) (hi : (P.info? ty).map (·.size) = some cs.length) :
    (results fn tmps).run P w = .ok (.agg cs.toArray) w := by
  have hp' : tmps[p]?.getD undef = .pointer (some ⟨g, o, none⟩) := by simpa using hp
  simp [results, h, hp', asAddr, run_loadVar_mid w g o ty cs d hg hu hd hi]
/-- The row that a copy hands on. -/
theorem cells_row {w : World} {A : Option Addr} {l : List UInt8} (h : Row8 w A l) : 0 < (l.map v8).length → ∃ ad, A = some ad ∧ ∀ (j : Nat) (v : Value), (l.map v8)[j]? = some v → w.cell? (ad.add j) = some v := by
  intro hp
  rcases h with rfl | ⟨x, rfl, hc⟩
  · simp at hp
  · refine ⟨x, rfl, fun j v hj => ?_⟩
    have hjl : j < l.length := by
      have := (List.getElem?_eq_some_iff.1 hj).1
      simpa using this
    rw [hc j hjl]
    simp [hjl, v8] at hj
    rw [← hj]
theorem one_cells (l : List UInt8) : ∀ v ∈ l.map v8, v.oneCell' = true := by
  intro v hv
  obtain ⟨x, _, rfl⟩ := List.mem_map.1 hv
  rfl
theorem size1 : (Try.prog.info? 5).map (·.size) = some 1 := by kernel_rfl

set_option maxRecDepth 100000 in
theorem laid_calls (a : Option Addr) (c : Nat) (l : List UInt8) (w : World) (hr : Row8 w a l) (hm : l.length ≤ 65535) :
    Calls Try.prog 25 #[.slice a l.length c] w fun e w' => e = .returned (.agg ((head l).map v8).toArray) ∧ Below w.heap.size w w' := by
  have G := Lib.hid (And.intro hr hm)
  clear hr hm
  go_enter Try.func25, Try.ntmps25
  go_wp2_with fail
  have hA : ((w.alloc (.cells #[.int .u8 0, .int .u8 0, .int .u8 0, .int .u8 0, .int .u8 0, .int .u8 0, .int .u8 0, .int .u8 0] 48)).alloc (.cells #[.int .u8 167, .int .u8 94, .int .u8 0, .int .u8 0, .int .u8 0, .int .u8 0, .int .u8 0, .int .u8 0] 48)).heap[w.heap.size]? = some (.cells (([0, 0, 0, 0, 0, 0, 0, 0] : List UInt8).map v8).toArray 48 (0, 0)) := heap_alloc2_old _ _ _
  have hB : ((w.alloc (.cells #[.int .u8 0, .int .u8 0, .int .u8 0, .int .u8 0, .int .u8 0, .int .u8 0, .int .u8 0, .int .u8 0] 48)).alloc (.cells #[.int .u8 167, .int .u8 94, .int .u8 0, .int .u8 0, .int .u8 0, .int .u8 0, .int .u8 0, .int .u8 0] 48)).heap[w.heap.size + 1]? = some (.cells (([0xA7, 0x5E, 0, 0, 0, 0, 0, 0] : List UInt8).map v8).toArray 48 (0, 0)) := heap_alloc2_new _ _ _
  have hb0 : Below w.heap.size w ((w.alloc (.cells #[.int .u8 0, .int .u8 0, .int .u8 0, .int .u8 0, .int .u8 0, .int .u8 0, .int .u8 0, .int .u8 0] 48)).alloc (.cells #[.int .u8 167, .int .u8 94, .int .u8 0, .int .u8 0, .int .u8 0, .int .u8 0, .int .u8 0, .int .u8 0] 48)) := (by repeat (first | exact Below.refl _ _ | assumption | apply Below.drew | apply below_drewN | (refine Below.alloc ?_ (by first | (simp; done) | omega | (simp; omega)) _)))
  generalize (w.alloc (.cells #[.int .u8 0, .int .u8 0, .int .u8 0, .int .u8 0, .int .u8 0, .int .u8 0, .int .u8 0, .int .u8 0] 48)).alloc (.cells #[.int .u8 167, .int .u8 94, .int .u8 0, .int .u8 0, .int .u8 0, .int .u8 0, .int .u8 0, .int .u8 0] 48) = W0 at hA hB hb0 ⊢
  have HA := Lib.hid hA
  have HB := Lib.hid hB
  have hz0 := hb0.size
  clear hA hB
  have ML : IntKind.u64.wrap (l.length : Int) = (l.length : Int) := by rw [Num.wrap_u64]; have := G.out.2; omega
  go_region_held3 (fun _ => True) (trivial) (first | (go_at_call 31; ((with_reducible refine (put_nil (w := w) (by repeat (first | exact Below.refl _ _ | assumption | apply Below.drew | apply below_drewN | (refine Below.alloc ?_ (by first | (simp; done) | omega | (simp; omega)) _))) l.length 2 2 (by simp) (by omega)).mono ?_); rintro e w' ⟨A, cc, rfl, hrow, hb1, hq1, hz1, hz2⟩)) | (refine step_copy_splice (by rfl) _ _ 22 22 (by rfl) 5 Try.underlying22 size1 (some ⟨w.heap.size + 1, 2, none⟩) A 6 6 2 cc (by rfl) (by rfl) (w.heap.size + 1) 2 (([0xA7, 0x5E, 0, 0, 0, 0, 0, 0] : List UInt8).map v8) 48 (hq1.out _ _ HB.out) ((be 2 l.length).map v8) (by rw [List.length_map, length_be]; rfl) (fun h => ⟨rfl, cells_row hrow h⟩) (by rw [List.length_map, List.length_map, length_be]; decide) (one_cells _) (w.heap.size + 1) _ (Below.refl _ _) (Nat.le_refl _) ?_; intro w2 hcp hb2))
  go_wp2_with fail
  have hc2 := hcp.out
  rw [splice_v8, show splice ([0xA7, 0x5E, 0, 0, 0, 0, 0, 0] : List UInt8) 2 (be 2 l.length) = [0xA7, 0x5E] ++ (be 2 l.length ++ [0, 0, 0, 0]) from by unfold splice; rw [length_be]; rfl] at hc2
  have ha2 : w2.heap[w.heap.size]? = some (.cells (([0, 0, 0, 0, 0, 0, 0, 0] : List UInt8).map v8).toArray 48 (0, 0)) := (hb2.block _ (by omega)).trans (hq1.out _ _ HA.out)
  have hbw : Below w.heap.size w w2 := hb1.trans (hb2.mono (by omega))
  have hr2 : Row8 w2 (some ⟨w.heap.size + 1, 2, none⟩) (be 2 l.length) := Row8.mid [0xA7, 0x5E] (be 2 l.length) [0, 0, 0, 0] hc2 rfl
  have hrl : Row8 w2 a l := G.out.1.below hbw
  clear hcp hb2 hq1 hrow hb1 hz1 hz2 hb0 hz0
  have HC := Lib.hid (And.intro hc2 (And.intro ha2 (And.intro hr2 hrl)))
  clear hc2 ha2 hr2 hrl
  have hz := hbw.size
  obtain ⟨s, hs⟩ : ∃ s, s = (sumOf l).toNat := ⟨_, rfl⟩
  have MS : IntKind.u64.wrap (u (more 0#32 (be 2 l.length ++ l))) = (s : Int) := by
    rw [Num.wrap_u64, hs]
    show u (sumOf l) % _ = _
    have := u_hi (sumOf l); have := u_lo (sumOf l); unfold u at *; omega
  have HS := Lib.hid hs
  clear hs
  go_region_held3 (fun _ => True) (trivial) (first | (go_at_call 32; ((with_reducible refine (sum2n (w0 := w2) _ _ _ 2 l.length _ _ (be 2 l.length) l (by rw [length_be]) rfl HC.out.2.2.1 HC.out.2.2.2 (by rw [length_be]; omega) (by have := G.out.2; omega) (by repeat (first | exact Below.refl _ _ | assumption | apply Below.drew | apply below_drewN | (refine Below.alloc ?_ (by first | (simp; done) | omega | (simp; omega)) _))) (by repeat (first | exact heap_at (by first | (simp; done) | omega | (simp; omega)) | assumption | (apply hqJ.out) | (apply hqZ.out) | apply heap_behind_drew | apply heap_behind_drewN | apply heap_past))).mono ?_); rintro e w' ⟨rfl, rfl⟩)) | (go_at_call 31; ((with_reducible refine (put_nil (w := w2) (by repeat (first | exact Below.refl _ _ | assumption | apply Below.drew | apply below_drewN | (refine Below.alloc ?_ (by first | (simp; done) | omega | (simp; omega)) _))) s 4 4 (by simp) (by omega)).mono ?_); rintro e w' ⟨A4, c4, rfl, hrow4, hb4, hq4, hz4, hz5⟩)) | (refine step_copy_splice (by rfl) _ _ 22 22 (by rfl) 5 Try.underlying22 size1 (some ⟨w.heap.size + 1, 4, none⟩) A4 4 4 4 c4 (by rfl) (by rfl) (w.heap.size + 1) 4 (([0xA7, 0x5E] ++ (be 2 l.length ++ [0, 0, 0, 0]) : List UInt8).map v8) 48 (hq4.out _ _ (heap_behind_drew (heap_past HC.out.1))) ((be 4 s).map v8) (by rw [List.length_map, length_be]; rfl) (fun h => ⟨rfl, cells_row hrow4 h⟩) (by simp [length_be]) (one_cells _) (w.heap.size + 1) _ (Below.refl _ _) (Nat.le_refl _) ?_; intro w5 hcp hb5))
  have hc5 := hcp.out
  have ha5 : w5.heap[w.heap.size]? = some (.cells (([0, 0, 0, 0, 0, 0, 0, 0] : List UInt8).map v8).toArray 48 (0, 0)) := (hb5.block _ (by omega)).trans (hq4.out _ _ (heap_behind_drew (heap_past HC.out.2.1)))
  have hbw5 : Below w.heap.size w w5 := hbw.trans ((hb4.mono (by omega)).trans (hb5.mono (by omega)))
  rw [splice_v8, show splice ([0xA7, 0x5E] ++ (be 2 l.length ++ [0, 0, 0, 0]) : List UInt8) 4 (be 4 s) = head l from by unfold splice head; rw [HS.out, length_be]; simp [be]] at hc5
  clear hcp hb5 hq4 hrow4 hb4 hz4 hz5 hbw HC
  have HC5 := Lib.hid (And.intro hc5 ha5)
  have hz5 := hbw5.size
  clear hc5 ha5
  have hi8 : (Try.prog.info? 48).map (·.size) = some 8 := by kernel_rfl
  have hsz : ((head l).map v8).toArray.size = 8 := by simp [length_head]
  have hth : w5.there w.heap.size 0 ((head l).map v8).toArray.size := by
    intro j hj
    rw [hsz] at hj
    refine ⟨?_, by simp [World.frozen?, HC5.out.2]⟩
    simp only [World.cell?, HC5.out.2]
    simp
    omega
  have HT := Lib.hid (And.intro hi8 (And.intro hsz hth))
  clear hi8 hsz hth
  go_wp2_with (first | (refine wpList_load_row rfl 48 _ rfl (w.heap.size + 1) rfl 48 _ (0, 0) _ HC5.out.1 Try.underlying48 rfl (by rw [HT.out.2.1]; exact HT.out.1) ?_) | (refine wpList_store_mid rfl 48 _ _ rfl w.heap.size 0 _ rfl rfl HT.out.2.2 (by rw [HT.out.2.1]; exact HT.out.1) (all_oneCell_toArray (one_cells _)) ?_))
  have hth := HT.out.2.2
  rw [List.size_toArray] at hth
  have hrg := World.rangeAt_setCells_same w5 w.heap.size 0 ((head l).map v8) hth
  refine bodyPost_ret (v := .agg ((head l).map v8).toArray) (results_cell_mid rfl _ _ w.heap.size 0 _ _ rfl hrg Try.underlying48 rfl (by rw [← List.size_toArray, HT.out.2.1]; exact HT.out.1)) rfl ⟨rfl, below_setCells hbw5 (Nat.le_refl _) _ _⟩
end Go.Proofs.Ytjngekbgfinidaa.Fr
