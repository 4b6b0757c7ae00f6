/- The walk of the reference's Make, and of the law on it. -/
import Derived.Test.YtcgbjodeklknoaaDoorVCounts
import Derived.ChangeKeysEq
namespace Go.Proofs.YtcgbjodeklknoaaDoor.Vo
set_option linter.unusedVariables false
set_option linter.unusedSimpArgs false
open Go.RowKit
open Go.Proofs.YtcgbjodeklknoaaDoor.Bit

theorem ofL_getD (e r q : Nat) (l : List UInt8) (k : Nat) (h : k < 8) : (ofL e r q l).V.getD k 0 = (l.getD k 0).toNat := by
  rcases lt8 h with rfl | rfl | rfl | rfl | rfl | rfl | rfl | rfl <;> rfl
theorem getD_take (l : List UInt8) (k i : Nat) : (l.take k).getD i 0 = if i < k then l.getD i 0 else 0 := by
  simp only [List.getD_eq_getElem?_getD, List.getElem?_take]
  split <;> rfl
theorem cells_set (e r q : Nat) (l : List UInt8) (k : Nat) (h : k < 8) : (ofL e r q (l.take k)).cells.toArray.setIfInBounds (3 + k) (.int .u8 ((l.getD k 0).toNat : Int)) = (ofL e r q (l.take (k + 1))).cells.toArray := by
  rcases lt8 h with rfl | rfl | rfl | rfl | rfl | rfl | rfl | rfl <;> (simp only [ofL, getD_take, Cf.cells]; simp)
theorem block_set {w : World} {g i : Nat} {cs : Array Value} {t : TypeId} {fr : Nat × Nat} (h : w.heap[g]? = some (.cells cs t fr)) (v : Value) : (w.setCell ⟨g, i, none⟩ v).heap[g]? = some (.cells (cs.setIfInBounds i v) t fr) := by
  rw [setCell_eq_setRow w g i cs t fr v h]
  exact setRow_heap w g _ _ t _ h
theorem cell_lt {w : World} {g k : Nat} {c : Cf} (h : w.heap[g]? = some (.cells c.cells.toArray 25 (0, 0))) (hk : k < 8) : w.cell? ⟨g, 3 + k, none⟩ = some (.int .u8 (c.V.getD k 0 : Int)) := (boxS_heap h).vote k hk
set_option maxHeartbeats 4000000 in
set_option maxRecDepth 100000 in
theorem rmake_calls (e r q : Nat) (a : Option Addr) (cap : Nat) (l : List UInt8) (he : e < 4294967296) (hr : r < 256) (hq : q < 256) (w : World) (hrow : Row8 w a l) (hl : l.length ≤ 9223372036854775807) :
    Calls Tryd.prog 13 #[.int .u32 (e : Int), .int .u8 (r : Int), .int .u8 (q : Int), .slice a l.length cap] w fun z w' => z = .returned (.tuple #[(makeF e r q l).1.val, .int .i64 ((makeF e r q l).2 : Int)]) ∧ Below w.heap.size w w' := by
  have G := Lib.hid (And.intro hrow (And.intro he (And.intro hr hq)))
  clear hrow he hr hq
  obtain ⟨M, hM⟩ : ∃ M, M = makeF e r q l := ⟨_, rfl⟩
  rw [← hM]
  have HM := Lib.hid hM
  clear hM
  have hA : ((w.alloc (.cells #[.int .u32 0, .int .u8 0, .int .u8 0, .int .u8 0, .int .u8 0, .int .u8 0, .int .u8 0, .int .u8 0, .int .u8 0, .int .u8 0, .int .u8 0] 25)).alloc (.cells #[.int .u32 (e : Int), .int .u8 (r : Int), .int .u8 (q : Int), .int .u8 0, .int .u8 0, .int .u8 0, .int .u8 0, .int .u8 0, .int .u8 0, .int .u8 0, .int .u8 0] 25)).heap[w.heap.size]? = some (.cells (Cf.zero.cells).toArray 25 (0, 0)) := by
    rw [heap_alloc_old _ _ (by simp), heap_alloc_new]; rfl
  have hB : ((w.alloc (.cells #[.int .u32 0, .int .u8 0, .int .u8 0, .int .u8 0, .int .u8 0, .int .u8 0, .int .u8 0, .int .u8 0, .int .u8 0, .int .u8 0, .int .u8 0] 25)).alloc (.cells #[.int .u32 (e : Int), .int .u8 (r : Int), .int .u8 (q : Int), .int .u8 0, .int .u8 0, .int .u8 0, .int .u8 0, .int .u8 0, .int .u8 0, .int .u8 0, .int .u8 0] 25)).heap[w.heap.size + 1]? = some (.cells (ofL e r q (l.take 0)).cells.toArray 25 (0, 0)) := by
    have := heap_alloc_new (w.alloc (.cells #[.int .u32 0, .int .u8 0, .int .u8 0, .int .u8 0, .int .u8 0, .int .u8 0, .int .u8 0, .int .u8 0, .int .u8 0, .int .u8 0, .int .u8 0] 25)) (.cells #[.int .u32 (e : Int), .int .u8 (r : Int), .int .u8 (q : Int), .int .u8 0, .int .u8 0, .int .u8 0, .int .u8 0, .int .u8 0, .int .u8 0, .int .u8 0, .int .u8 0] 25)
    rw [World.size_alloc] at this
    rw [this]; rfl
  have hbel : Below w.heap.size w ((w.alloc (.cells #[.int .u32 0, .int .u8 0, .int .u8 0, .int .u8 0, .int .u8 0, .int .u8 0, .int .u8 0, .int .u8 0, .int .u8 0, .int .u8 0, .int .u8 0] 25)).alloc (.cells #[.int .u32 (e : Int), .int .u8 (r : Int), .int .u8 (q : Int), .int .u8 0, .int .u8 0, .int .u8 0, .int .u8 0, .int .u8 0, .int .u8 0, .int .u8 0, .int .u8 0] 25)) := (by repeat (first | exact Below.refl _ _ | assumption | apply Below.drew | apply below_drewN | (refine Below.alloc ?_ (by first | (simp; done) | omega | (simp; omega)) _)))
  have HB := Lib.hid (And.intro hbel (And.intro hA hB))
  clear hA hB hbel
  obtain ⟨c, hc⟩ : ∃ c, c = ofL e r q l := ⟨_, rfl⟩
  have hok : c.Ok := by rw [hc]; exact ofL_ok l G.out.2.1 G.out.2.2.1 G.out.2.2.2
  have HC := Lib.hid (And.intro hc hok)
  clear hc hok
  by_cases hle : l.length ≤ 8
  · go_enter Tryd.func13, Tryd.ntmps13
    go_wp2_with fail
    generalize ((w.alloc (.cells #[.int .u32 0, .int .u8 0, .int .u8 0, .int .u8 0, .int .u8 0, .int .u8 0, .int .u8 0, .int .u8 0, .int .u8 0, .int .u8 0, .int .u8 0] 25)).alloc (.cells #[.int .u32 (e : Int), .int .u8 (r : Int), .int .u8 (q : Int), .int .u8 0, .int .u8 0, .int .u8 0, .int .u8 0, .int .u8 0, .int .u8 0, .int .u8 0, .int .u8 0] 25)) = w1 at HB ⊢
    go_loopw [11] (fun i wr => ∃ k : Nat, k ≤ l.length ∧ i = .int .i64 (k : Int) ∧ Below w.heap.size w wr ∧ wr.heap[w.heap.size]? = some (.cells (Cf.zero.cells).toArray 25 (0, 0)) ∧ wr.heap[w.heap.size + 1]? = some (.cells (ofL e r q (l.take k)).cells.toArray 25 (0, 0))) (fun i _ => l.length - (intOf i).toNat)
    case atStart => exact ⟨0, by omega, rfl, HB.out.1, HB.out.2.1, HB.out.2.2⟩
    case round =>
      obtain ⟨k, hk, rfl, hb, hz, hcur⟩ := hrel
      have H := Lib.hid (And.intro hb (And.intro hz hcur))
      have hzz := hb.size
      clear hb hz hcur
      by_cases hlt : k < l.length
      · obtain ⟨x, rfl, hs⟩ : ∃ x, a = some x ∧ ∀ i : Nat, ∀ h : i < l.length, wr.cell? (x.add i) = some (.int .u8 (l[i].toNat : Int)) := by
          rcases G.out.1.below H.out.1 with h | h
          · rw [h] at hlt; simp at hlt
          · exact h
        have hsk := hs k hlt
        have hd := cell_lt (k := k) H.out.2.2 (by omega)
        have hfr := free_block H.out.2.2 (3 + k)
        have hv : l[k] = l.getD k 0 := by rw [List.getD_eq_getElem?_getD, List.getElem?_eq_getElem hlt]; rfl
        rw [hv] at hsk
        obtain ⟨y, hy⟩ : ∃ y, y = l.getD k 0 := ⟨_, rfl⟩
        rw [← hy] at hsk
        have HY := Lib.hid hy
        clear hs hv hy
        go_wp2_with fail
        go_roundw
        case rel =>
          refine ⟨k + 1, by omega, by go_num, H.out.1.setCell (p := ⟨w.heap.size + 1, 3 + k, none⟩) (by show w.heap.size ≤ w.heap.size + 1; omega) _, ?_, ?_⟩
          · rw [Below.heap_setCell _ ⟨w.heap.size + 1, 3 + k, none⟩ _ _ (by show w.heap.size ≠ w.heap.size + 1; omega)]; exact H.out.2.1
          · rw [← cells_set e r q l k (by omega), ← HY.out]; exact block_set H.out.2.2 _
        case measure => (first | (simp [intOf]; done) | (simp [intOf]; omega))
      · obtain rfl : k = l.length := by omega
        have hcur := H.out.2.2
        rw [List.take_length, ← HC.out.1] at hcur
        have hS := boxS_heap hcur
        have HS := Lib.hid (And.intro hS hcur)
        obtain ⟨k0, k1, k2, k3, k4, k5, k6, k7, k8, k9, k10⟩ := hS
        clear hcur
        go_wp2_with fail
        refine (rmay_calls c HC.out.2 wr).mono ?_
        rintro z w3 ⟨rfl, hb⟩
        have hbw : Below w.heap.size w w3 := H.out.1.trans (hb.mono (by omega))
        have hlt2 : w.heap.size < wr.heap.size := (Array.getElem?_eq_some_iff.1 H.out.2.1).1
        have H3 := Lib.hid (And.intro hbw (And.intro ((hb.block w.heap.size hlt2).trans H.out.2.1) (HS.out.1.below hb)))
        clear hbw hb hlt2 k0 k1 k2 k3 k4 k5 k6 k7 k8 k9 k10
        obtain ⟨z0, z1, z2, z3, z4, z5, z6, z7, z8, z9, z10⟩ := boxS_heap (c := Cf.zero) H3.out.2.1
        have f0 := free_block H3.out.2.1 0
        have f1 := free_block H3.out.2.1 1
        have f2 := free_block H3.out.2.1 2
        have f3 := free_block H3.out.2.1 3
        have f4 := free_block H3.out.2.1 4
        have f5 := free_block H3.out.2.1 5
        have f6 := free_block H3.out.2.1 6
        have f7 := free_block H3.out.2.1 7
        have f8 := free_block H3.out.2.1 8
        have f9 := free_block H3.out.2.1 9
        have f10 := free_block H3.out.2.1 10
        cases hm : mayF c with
        | true =>
          obtain ⟨k0, k1, k2, k3, k4, k5, k6, k7, k8, k9, k10⟩ := H3.out.2.2
          have HX := Lib.hid hm
          clear hm
          go_wp2_with fail
          refine bodyPost_ret (v := .tuple #[.agg #[.int .u32 (c.e : Int), .int .u8 (c.r : Int), .int .u8 (c.q : Int), .int .u8 (c.v0 : Int), .int .u8 (c.v1 : Int), .int .u8 (c.v2 : Int), .int .u8 (c.v3 : Int), .int .u8 (c.v4 : Int), .int .u8 (c.v5 : Int), .int .u8 (c.v6 : Int), .int .u8 (c.v7 : Int)], .int .i64 0]) (by simp [results, Tryd.results13, go_sem, z0, z1, z2, z3, z4, z5, z6, z7, z8, z9, z10]) rfl ⟨?_, below_set11 H3.out.1 (Nat.le_refl _) _ _ _ _ _ _ _ _ _ _ _⟩
          rw [HM.out]; unfold makeF; rw [if_pos ⟨hle, by rw [← HC.out.1]; exact HX.out⟩, ← HC.out.1]; rfl
        | false =>
          have HX := Lib.hid hm
          clear hm
          go_wp2_with fail
          refine bodyPost_ret (v := .tuple #[.agg #[.int .u32 0, .int .u8 0, .int .u8 0, .int .u8 0, .int .u8 0, .int .u8 0, .int .u8 0, .int .u8 0, .int .u8 0, .int .u8 0, .int .u8 0], .int .i64 16]) (by simp [results, Tryd.results13, go_sem, z0, z1, z2, z3, z4, z5, z6, z7, z8, z9, z10]) rfl ⟨?_, below_set11 H3.out.1 (Nat.le_refl _) _ _ _ _ _ _ _ _ _ _ _⟩
          rw [HM.out]; unfold makeF; rw [if_neg (fun h => by rw [← HC.out.1, HX.out] at h; exact absurd h.2 (by decide))]; rfl
  · go_enter Tryd.func13, Tryd.ntmps13
    go_wp2_with fail
    refine bodyPost_ret (v := .tuple #[.agg #[.int .u32 0, .int .u8 0, .int .u8 0, .int .u8 0, .int .u8 0, .int .u8 0, .int .u8 0, .int .u8 0, .int .u8 0, .int .u8 0, .int .u8 0], .int .i64 16]) (by simp [results, Tryd.results13, go_sem]) rfl ⟨?_, HB.out.1⟩
    rw [HM.out]; unfold makeF; rw [if_neg (fun h => hle h.1)]; rfl
theorem info8 : (Tryd.prog.info? 5).map (fun i => (i.zero, i.size, i.bytes)) = some (some (.int .u8 0), 1, 1) := by kernel_rfl
theorem cellsB : Tryd.prog.cellsOf 5 = 1 := by kernel_rfl
/-- Votes are themselves. -/
theorem eq_votes (m : Cf) (w : World) : Sem.run Tryd.prog (Op.equalIn 9999 23 (.agg #[.int .u8 (m.v0 : Int), .int .u8 (m.v1 : Int), .int .u8 (m.v2 : Int), .int .u8 (m.v3 : Int), .int .u8 (m.v4 : Int), .int .u8 (m.v5 : Int), .int .u8 (m.v6 : Int), .int .u8 (m.v7 : Int)]) (.agg #[.int .u8 (m.v0 : Int), .int .u8 (m.v1 : Int), .int .u8 (m.v2 : Int), .int .u8 (m.v3 : Int), .int .u8 (m.v4 : Int), .int .u8 (m.v5 : Int), .int .u8 (m.v6 : Int), .int .u8 (m.v7 : Int)])) w = .ok true w := by
  obtain ⟨i0, hi, hz0, hz1, hz2⟩ := info_parts info8
  rw [run_equalIn_array w 9998 _ _ Tryd.underlying23 hi, cellsB, show List.range 8 = [0, 1, 2, 3, 4, 5, 6, 7] from rfl]
  have hp : ∀ (j : Nat) (v : Value), (#[.int .u8 (m.v0 : Int), .int .u8 (m.v1 : Int), .int .u8 (m.v2 : Int), .int .u8 (m.v3 : Int), .int .u8 (m.v4 : Int), .int .u8 (m.v5 : Int), .int .u8 (m.v6 : Int), .int .u8 (m.v7 : Int)] : Array Value)[j]? = some v → Sem.run Tryd.prog (part 5 #[.int .u8 (m.v0 : Int), .int .u8 (m.v1 : Int), .int .u8 (m.v2 : Int), .int .u8 (m.v3 : Int), .int .u8 (m.v4 : Int), .int .u8 (m.v5 : Int), .int .u8 (m.v6 : Int), .int .u8 (m.v7 : Int)] (j * 1)) w = .ok v w := by
    intro j v hv
    simp [part, go_sem, hi, hz1, hv]
  have he : ∀ k : Nat, Sem.run Tryd.prog (Op.equalIn 9998 5 (.int .u8 (k : Int)) (.int .u8 (k : Int))) w = .ok true w := fun k => by
    rw [run_equalIn_int w 9997 _ _ _ _ _ Tryd.underlying5]; simp
  simp only [Op.eqItems, Sem.run_bind, hp 0 (.int .u8 (m.v0 : Int)) rfl, hp 1 (.int .u8 (m.v1 : Int)) rfl, hp 2 (.int .u8 (m.v2 : Int)) rfl, hp 3 (.int .u8 (m.v3 : Int)) rfl, hp 4 (.int .u8 (m.v4 : Int)) rfl, hp 5 (.int .u8 (m.v5 : Int)) rfl, hp 6 (.int .u8 (m.v6 : Int)) rfl, hp 7 (.int .u8 (m.v7 : Int)) rfl, Result.andThen_ok, he, Bool.not_true, Bool.false_eq_true, if_false, Sem.run_pure]
theorem makeF_ok {e r q : Nat} (l : List UInt8) (he : e < 4294967296) (hr : r < 256) (hq : q < 256) : (makeF e r q l).1.Ok := by
  unfold makeF
  split
  · exact ofL_ok l he hr hq
  · exact ⟨by decide, by decide, by decide, by decide⟩
/-- Three configurations behind the world w. -/
def Bx3 (w : World) (c m : Cf) (g h : Nat) (W : World) : Prop := Below w.heap.size w W ∧ BoxS w.heap.size c W ∧ BoxS g m W ∧ BoxS h m W
theorem at_of3 {f : Nat} {args : Array Value} {v : Value} {w W : World} {c m : Cf} {g g' : Nat} (h : Hid (Bx3 w c m g g' W)) (hc : Calls Tryd.prog f args W fun e w' => e = .returned v ∧ Below W.heap.size W w') :
    Calls Tryd.prog f args W fun e w' => e = .returned v ∧ Hid (Bx3 w c m g g' w') :=
  hc.mono fun _ _ ⟨he, hb⟩ => ⟨he, Lib.hid ⟨h.out.1.trans (hb.mono h.out.1.size), h.out.2.1.below hb, h.out.2.2.1.below hb, h.out.2.2.2.below hb⟩⟩
theorem alive_at3 {w W : World} {c m : Cf} {g g' : Nat} (h : Hid (Bx3 w c m g g' W)) (hT : TabAt 0 Lib.deBruijn64tab w) (hw : 0 < w.heap.size) :
    Calls Tryd.prog 11 #[] W fun e w' => e = .returned (.bool true) ∧ Hid (Bx3 w c m g g' w') :=
  at_of3 h (alive_calls W (tab_below hT h.out.1 hw) (by have := h.out.1.size; omega))
set_option maxHeartbeats 4000000 in
set_option maxRecDepth 100000 in
theorem VotesMakes_walk (c : Cf) (hc : c.Ok) (a : Option Addr) (cap : Nat) (l : List UInt8) (w : World) (hrow : Row8 w a l) (hl : l.length ≤ 9223372036854775807) (hT : TabAt 0 Lib.deBruijn64tab w) (hw : 0 < w.heap.size) :
    Calls Tryd.prog 3 #[c.val, .slice a l.length cap] w fun e w' => e = .returned (.bool true) ∧ Below w.heap.size w w' := by
  have HX := Lib.hid (bx_new c w)
  by_cases hlen : 300 < l.length
  · have G := Lib.hid hT
    clear hT hrow hc
    unfold Cf.val
    go_enter Tryd.func3, Tryd.ntmps3
    go_wp2_with fail
    refine (alive_at HX G.out hw).mono ?_
    rintro e w3 ⟨rfl, hx3⟩
    go_wp2_with fail
    go_ret
    exact ⟨rfl, hx3.out.1⟩
  · have c1 := fun W (h : Row8 W a l) => vmake_calls c.e c.r c.q a cap l hc.e hc.r hc.q W h hl
    have c2 := fun W (h : Row8 W a l) => rmake_calls c.e c.r c.q a cap l hc.e hc.r hc.q W h hl
    have c3 := fun W => vmay_calls c hc W
    have c4 := fun W => rmay_calls c hc W
    obtain ⟨m, hm⟩ : ∃ m, m = (makeF c.e c.r c.q l).1 := ⟨_, rfl⟩
    obtain ⟨z, hz⟩ : ∃ z, z = (makeF c.e c.r c.q l).2 := ⟨_, rfl⟩
    obtain ⟨y, hy⟩ : ∃ y, y = mayF c := ⟨_, rfl⟩
    rw [← hm, ← hz] at c1 c2
    rw [← hy] at c3 c4
    have G := Lib.hid (And.intro c1 (And.intro c2 (And.intro c3 (And.intro c4 (And.intro hrow hT)))))
    clear c1 c2 c3 c4 hm hz hy hT hrow hc
    unfold Cf.val at G ⊢
    obtain ⟨k0, k1, k2, k3, k4, k5, k6, k7, k8, k9, k10⟩ := HX.out.2
    go_enter Tryd.func3, Tryd.ntmps3
    go_wp2_with fail
    generalize w.alloc (.cells #[.int .u32 (c.e : Int), .int .u8 (c.r : Int), .int .u8 (c.q : Int), .int .u8 (c.v0 : Int), .int .u8 (c.v1 : Int), .int .u8 (c.v2 : Int), .int .u8 (c.v3 : Int), .int .u8 (c.v4 : Int), .int .u8 (c.v5 : Int), .int .u8 (c.v6 : Int), .int .u8 (c.v7 : Int)] 25) = w1 at HX k0 k1 k2 k3 k4 k5 k6 k7 k8 k9 k10 ⊢
    refine (at_of HX (G.out.1 w1 (G.out.2.2.2.2.1.below HX.out.1))).mono ?_
    rintro e w2 ⟨rfl, hx2⟩
    clear k0 k1 k2 k3 k4 k5 k6 k7 k8 k9 k10
    have hx3 : Hid (Bx w c (w2.alloc (.cells #[.int .u32 (m.e : Int), .int .u8 (m.r : Int), .int .u8 (m.q : Int), .int .u8 (m.v0 : Int), .int .u8 (m.v1 : Int), .int .u8 (m.v2 : Int), .int .u8 (m.v3 : Int), .int .u8 (m.v4 : Int), .int .u8 (m.v5 : Int), .int .u8 (m.v6 : Int), .int .u8 (m.v7 : Int)] 25)) ∧ BoxS w2.heap.size m (w2.alloc (.cells #[.int .u32 (m.e : Int), .int .u8 (m.r : Int), .int .u8 (m.q : Int), .int .u8 (m.v0 : Int), .int .u8 (m.v1 : Int), .int .u8 (m.v2 : Int), .int .u8 (m.v3 : Int), .int .u8 (m.v4 : Int), .int .u8 (m.v5 : Int), .int .u8 (m.v6 : Int), .int .u8 (m.v7 : Int)] 25))) := Lib.hid ⟨⟨hx2.out.1.alloc hx2.out.1.size _, hx2.out.2.below (below_alloc1 _ _)⟩, boxS_new m w2⟩
    obtain ⟨k0, k1, k2, k3, k4, k5, k6, k7, k8, k9, k10⟩ := hx3.out.1.2
    go_wp2_with fail
    have hzz := hx2.out.1.size
    generalize hg : w2.heap.size = g at hx3 hzz ⊢
    generalize w2.alloc (.cells #[.int .u32 (m.e : Int), .int .u8 (m.r : Int), .int .u8 (m.q : Int), .int .u8 (m.v0 : Int), .int .u8 (m.v1 : Int), .int .u8 (m.v2 : Int), .int .u8 (m.v3 : Int), .int .u8 (m.v4 : Int), .int .u8 (m.v5 : Int), .int .u8 (m.v6 : Int), .int .u8 (m.v7 : Int)] 25) = w3 at hx3 k0 k1 k2 k3 k4 k5 k6 k7 k8 k9 k10 ⊢
    refine (G.out.2.1 w3 (G.out.2.2.2.2.1.below hx3.out.1.1)).mono ?_
    rintro e w4 ⟨rfl, hb4⟩
    have hx5 : Hid (Bx3 w c m g w4.heap.size (w4.alloc (.cells #[.int .u32 (m.e : Int), .int .u8 (m.r : Int), .int .u8 (m.q : Int), .int .u8 (m.v0 : Int), .int .u8 (m.v1 : Int), .int .u8 (m.v2 : Int), .int .u8 (m.v3 : Int), .int .u8 (m.v4 : Int), .int .u8 (m.v5 : Int), .int .u8 (m.v6 : Int), .int .u8 (m.v7 : Int)] 25))) := Lib.hid ⟨(hx3.out.1.1.trans (hb4.mono hx3.out.1.1.size)).alloc (Nat.le_trans hx3.out.1.1.size hb4.size) _, (hx3.out.1.2.below hb4).below (below_alloc1 _ _), (hx3.out.2.below hb4).below (below_alloc1 _ _), boxS_new m w4⟩
    clear hb4 hx3 k0 k1 k2 k3 k4 k5 k6 k7 k8 k9 k10 hx2 HX hlen
    go_wp2_with fail
    generalize hg' : w4.heap.size = g' at hx5 ⊢
    generalize w4.alloc (.cells #[.int .u32 (m.e : Int), .int .u8 (m.r : Int), .int .u8 (m.q : Int), .int .u8 (m.v0 : Int), .int .u8 (m.v1 : Int), .int .u8 (m.v2 : Int), .int .u8 (m.v3 : Int), .int .u8 (m.v4 : Int), .int .u8 (m.v5 : Int), .int .u8 (m.v6 : Int), .int .u8 (m.v7 : Int)] 25) = w5 at hx5 ⊢
    have hx := hx5
    have heq := eq_votes m
    have hxd := Lib.hid (show Bx3 w c m g g' w5.drew from ⟨hx.out.1.drew, hx.out.2.1, hx.out.2.2.1, hx.out.2.2.2⟩)
    clear hx5 hg hg' hzz
    go_region_held3 (fun W => (W.cell? ⟨w.heap.size, 0, none⟩ = some (.int .u32 (c.e : Int)) ∧ W.cell? ⟨w.heap.size, 1, none⟩ = some (.int .u8 (c.r : Int)) ∧ W.cell? ⟨w.heap.size, 2, none⟩ = some (.int .u8 (c.q : Int)) ∧ W.cell? ⟨w.heap.size, 3, none⟩ = some (.int .u8 (c.v0 : Int)) ∧ W.cell? ⟨w.heap.size, 4, none⟩ = some (.int .u8 (c.v1 : Int)) ∧ W.cell? ⟨w.heap.size, 5, none⟩ = some (.int .u8 (c.v2 : Int)) ∧ W.cell? ⟨w.heap.size, 6, none⟩ = some (.int .u8 (c.v3 : Int)) ∧ W.cell? ⟨w.heap.size, 7, none⟩ = some (.int .u8 (c.v4 : Int)) ∧ W.cell? ⟨w.heap.size, 8, none⟩ = some (.int .u8 (c.v5 : Int)) ∧ W.cell? ⟨w.heap.size, 9, none⟩ = some (.int .u8 (c.v6 : Int)) ∧ W.cell? ⟨w.heap.size, 10, none⟩ = some (.int .u8 (c.v7 : Int))) ∧ (W.cell? ⟨g, 0, none⟩ = some (.int .u32 (m.e : Int)) ∧ W.cell? ⟨g, 1, none⟩ = some (.int .u8 (m.r : Int)) ∧ W.cell? ⟨g, 2, none⟩ = some (.int .u8 (m.q : Int)) ∧ W.cell? ⟨g, 3, none⟩ = some (.int .u8 (m.v0 : Int)) ∧ W.cell? ⟨g, 4, none⟩ = some (.int .u8 (m.v1 : Int)) ∧ W.cell? ⟨g, 5, none⟩ = some (.int .u8 (m.v2 : Int)) ∧ W.cell? ⟨g, 6, none⟩ = some (.int .u8 (m.v3 : Int)) ∧ W.cell? ⟨g, 7, none⟩ = some (.int .u8 (m.v4 : Int)) ∧ W.cell? ⟨g, 8, none⟩ = some (.int .u8 (m.v5 : Int)) ∧ W.cell? ⟨g, 9, none⟩ = some (.int .u8 (m.v6 : Int)) ∧ W.cell? ⟨g, 10, none⟩ = some (.int .u8 (m.v7 : Int))) ∧ (W.cell? ⟨g', 0, none⟩ = some (.int .u32 (m.e : Int)) ∧ W.cell? ⟨g', 1, none⟩ = some (.int .u8 (m.r : Int)) ∧ W.cell? ⟨g', 2, none⟩ = some (.int .u8 (m.q : Int)) ∧ W.cell? ⟨g', 3, none⟩ = some (.int .u8 (m.v0 : Int)) ∧ W.cell? ⟨g', 4, none⟩ = some (.int .u8 (m.v1 : Int)) ∧ W.cell? ⟨g', 5, none⟩ = some (.int .u8 (m.v2 : Int)) ∧ W.cell? ⟨g', 6, none⟩ = some (.int .u8 (m.v3 : Int)) ∧ W.cell? ⟨g', 7, none⟩ = some (.int .u8 (m.v4 : Int)) ∧ W.cell? ⟨g', 8, none⟩ = some (.int .u8 (m.v5 : Int)) ∧ W.cell? ⟨g', 9, none⟩ = some (.int .u8 (m.v6 : Int)) ∧ W.cell? ⟨g', 10, none⟩ = some (.int .u8 (m.v7 : Int)))) (first | exact hx.out.2) (first | (go_at_call 14; ((with_reducible refine (at_of3 (by assumption) (G.out.2.2.1 _)).mono ?_); rintro e w' ⟨rfl, hx⟩)) | (go_at_call 15; ((with_reducible refine (at_of3 (by assumption) (G.out.2.2.2.1 _)).mono ?_); rintro e w' ⟨rfl, hx⟩)) | (go_at_call 11; ((with_reducible refine (alive_at3 (by assumption) G.out.2.2.2.2.2 hw).mono ?_); rintro e w' ⟨rfl, hx⟩)))
    go_wp2_with fail
    go_ret
    exact ⟨rfl, hx.out.1⟩
end Go.Proofs.YtcgbjodeklknoaaDoor.Vo
