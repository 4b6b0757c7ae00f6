/- The walk of the next frame. -/
import Derived.Test.YtjngekbgfinidaaFrameSize
import Derived.Stop.BytesEq
import Derived.Deep.OwnRows
import Derived.Deep.Cut
import Derived.Deep.DeepMust
import Derived.Deep.CutRange
namespace Go.Proofs.Ytjngekbgfinidaa.Fr
set_option linter.unusedVariables false
set_option linter.unusedSimpArgs false
open Go.RowKit
open Go.Proofs.Ytjngekbgfinidaa.Num Go.Proofs.Ytjngekbgfinidaa.Crc

theorem neq_head (l m : List UInt8) (hl : l.length = 8) (hm : m.length = 8) (w : World) : (binOp .neq 48 (.agg (l.map v8).toArray) (.agg (m.map v8).toArray)).run Try.prog w = .ok (.bool (!(l == m))) w := by
  have h := run_equalIn_bytes (P := Try.prog) w 9998 48 5 8 Try.underlying48 Try.underlying5 (fun w => by kernel_rfl) l m hl hm
  rw [run_neq_struct]
  have e : (Op.equalIn 10000 48 (.agg (l.map v8).toArray) (.agg (m.map v8).toArray)).run Try.prog w = .ok (l == m) w := h
  rw [e]; rfl

theorem made_eq (v : Value) (k : Nat) : madeCells #[v] k = Array.replicate k v := by
  apply Array.ext
  · simp [madeCells]
  · intro i h1 h2
    simp [madeCells, Nat.mod_one]
set_option maxRecDepth 100000 in
theorem next_err (a : Option Addr) (c : Nat) (l : List UInt8) (w : World) (hr : Row8 w a l) (hc : l.length ≤ c) (hm : l.length ≤ 9223372036854775000) (he : (sizeF l).2 ≠ 0) :
    Calls Try.prog 12 #[.slice a l.length c] w fun e w' => e = .returned (.tuple #[.slice none 0 0, .int .i64 0, .int .i64 ((sizeF l).2 : Int)]) ∧ Below w.heap.size w w' := by
  have hs := size_calls a c l w hr hc hm
  obtain ⟨s1, e1⟩ : ∃ s, s = (sizeF l).1 := ⟨_, rfl⟩
  obtain ⟨s2, e2⟩ : ∃ s, s = (sizeF l).2 := ⟨_, rfl⟩
  rw [← e1, ← e2] at hs
  rw [← e2] at he ⊢
  have t1 : ((s2 : Int) != 0) = true := by rw [bne_iff_ne]; omega
  have HS := Lib.hid hs
  clear hs hr hc hm he e1 e2
  go_enter Try.func12, Try.ntmps12
  go_wp2_with fail
  refine HS.out.mono ?_
  rintro e w' ⟨rfl, hb⟩
  go_wp2_with fail
  go_ret3
  exact ⟨rfl, hb⟩

set_option maxRecDepth 100000 in
theorem next_short (a : Option Addr) (c : Nat) (l : List UInt8) (w : World) (hr : Row8 w a l) (hc : l.length ≤ c) (hm : l.length ≤ 9223372036854775000) (he : (sizeF l).2 = 0) (hn : l.length < (sizeF l).1) :
    Calls Try.prog 12 #[.slice a l.length c] w fun e w' => e = .returned (.tuple #[.slice none 0 0, .int .i64 0, .int .i64 4]) ∧ Below w.heap.size w w' := by
  have hs := size_calls a c l w hr hc hm
  obtain ⟨s1, e1⟩ : ∃ s, s = (sizeF l).1 := ⟨_, rfl⟩
  rw [← e1, he] at hs
  rw [← e1] at hn
  have HS := Lib.hid hs
  clear hs hr hc hm he e1
  go_enter Try.func12, Try.ntmps12
  go_wp2_with fail
  refine HS.out.mono ?_
  rintro e w' ⟨rfl, hb⟩
  go_wp2_with fail
  go_ret3
  exact ⟨rfl, hb⟩

theorem take_drop_len {l : List UInt8} {k : Nat} (h : 8 + k ≤ l.length) : ((l.drop 8).take k).length = k := by simp; omega
theorem min8 {l : List UInt8} {k : Nat} (h : 8 + k ≤ l.length) : ((l.take 8).map v8).length = Nat.min l.length 8 := by
  rw [List.length_map, List.length_take, Nat.min_comm]
theorem fit8 {l : List UInt8} {k : Nat} (h : 8 + k ≤ l.length) : 0 + ((l.take 8).map v8).length ≤ (([0, 0, 0, 0, 0, 0, 0, 0] : List UInt8).map v8).length := by
  simp; omega
theorem after1 {w w' w2 : World} (hb : Below w.heap.size w w') (hb2 : Below w'.heap.size w' w2) {k : Nat} {load : List UInt8} (hk : load.length = k) (hmax : load.length ≤ maxLen) (hcp : Hid (w2.heap[w'.heap.size]? = some (.cells (splice (((List.replicate k 0) : List UInt8).map v8) 0 (load.map v8)).toArray 5 (0, 0)))) {x : Addr} {l : List UInt8} (hr : Row8 w (some x) l) :
    Hid (Own8 w2 w.heap.size 5 (.slice (some ⟨w'.heap.size, 0, none⟩) k k) load ∧ Below w.heap.size w w2 ∧ (w2.alloc (.cells #[.int .u8 0, .int .u8 0, .int .u8 0, .int .u8 0, .int .u8 0, .int .u8 0, .int .u8 0, .int .u8 0] 48)).heap[w2.heap.size]? = some (.cells (([0, 0, 0, 0, 0, 0, 0, 0] : List UInt8).map v8).toArray 48 (0, 0)) ∧ Row8 (w2.alloc (.cells #[.int .u8 0, .int .u8 0, .int .u8 0, .int .u8 0, .int .u8 0, .int .u8 0, .int .u8 0, .int .u8 0] 48)) (some x) l) := by
  have hw2 : Below w.heap.size w w2 := hb.trans (hb2.mono hb.size)
  have hc := hcp.out
  rw [splice_v8, show splice (List.replicate k (0 : UInt8)) 0 load = load from by unfold splice; rw [hk]; simp] at hc
  refine Lib.hid ⟨?_, hw2, heap_alloc_new _ _, hr.below (hw2.trans ((below_alloc1 w2 _).mono hw2.size))⟩
  subst hk
  exact ⟨by simp, .inr ⟨w'.heap.size, load.length, _, rfl, hb.size, hc, Nat.le_refl _, hmax, by simp, by rw [Nat.mul_one, ← List.length_map (f := v8)]; exact List.take_length⟩⟩

theorem splice8 {l : List UInt8} {k : Nat} (h : 8 + k ≤ l.length) : splice ([0, 0, 0, 0, 0, 0, 0, 0] : List UInt8) 0 (l.take 8) = l.take 8 := by
  unfold splice
  have : (l.take 8).length = 8 := by simp; omega
  rw [this]; simp
theorem own_row_at {w : World} {base : Nat} {E : TypeId} {A : Option Addr} {n c : Nat} {l : List UInt8} (h : Own8 w base E (.slice A n c) l) : Row8 w A l ∧ n = l.length := by
  obtain ⟨A', c', e, hr, _⟩ := h.row
  injection e with e1 e2 e3
  subst e1
  exact ⟨hr, e2⟩
theorem laid_calls' {w0 : World} (a : Option Addr) (k c : Nat) (l : List UInt8) {w : World} (hk : l.length = k) (hr : Row8 w0 a l) (hb : Below w0.heap.size w0 w) (hm : k ≤ 65535) :
    Calls Try.prog 25 #[.slice a k c] w fun e w' => e = .returned (.agg ((head l).map v8).toArray) ∧ Below w0.heap.size w0 w' := by
  subst hk
  refine (laid_calls a c l w (hr.below hb) hm).mono ?_
  rintro e w' ⟨rfl, hb2⟩
  exact ⟨rfl, hb.trans (hb2.mono hb.size)⟩
theorem eight {l : List UInt8} (h : l.length = 8) : ∃ a0 a1 a2 a3 a4 a5 a6 a7, l = [a0, a1, a2, a3, a4, a5, a6, a7] := by
  match l, h with
  | [a0, a1, a2, a3, a4, a5, a6, a7], _ => exact ⟨_, _, _, _, _, _, _, _, rfl⟩
theorem range8 {W : World} {b : Nat} {a0 a1 a2 a3 a4 a5 a6 a7 : UInt8} (h : W.rangeAt b 0 ([a0, a1, a2, a3, a4, a5, a6, a7].map v8)) : W.cell? ⟨b, 0, none⟩ = some (v8 a0) ∧ W.cell? ⟨b, 1, none⟩ = some (v8 a1) ∧ W.cell? ⟨b, 2, none⟩ = some (v8 a2) ∧ W.cell? ⟨b, 3, none⟩ = some (v8 a3) ∧ W.cell? ⟨b, 4, none⟩ = some (v8 a4) ∧ W.cell? ⟨b, 5, none⟩ = some (v8 a5) ∧ W.cell? ⟨b, 6, none⟩ = some (v8 a6) ∧ W.cell? ⟨b, 7, none⟩ = some (v8 a7) := by
  refine ⟨h 0 _ rfl, h 1 _ rfl, h 2 _ rfl, h 3 _ rfl, h 4 _ rfl, h 5 _ rfl, h 6 _ rfl, h 7 _ rfl⟩
theorem range_of_heap {w : World} {b : Nat} {cs : List Value} {t : TypeId} (h : w.heap[b]? = some (.cells cs.toArray t (0, 0))) : w.rangeAt b 0 cs := by
  intro j v hv
  simp [World.cell?, h, hv]
theorem range_below {w w' : World} {b o : Nat} {cs : List Value} (h : w.rangeAt b o cs) (hb : Below w.heap.size w w') : w'.rangeAt b o cs := by
  intro j v hv
  have := h j v hv
  have hlt : b < w.heap.size := by
    rcases Nat.lt_or_ge b w.heap.size with h1 | h1
    · exact h1
    · simp [World.cell?, Array.getElem?_eq_none h1] at this
  rw [World.cell?, hb.block b hlt]
  exact this
set_option maxRecDepth 100000 in
theorem next_rest (x : Addr) (c : Nat) (l : List UInt8) (k : Nat) (w : World) (hr : Row8 w (some x) l) (hc : l.length ≤ c) (hm : l.length ≤ 9223372036854775000) (hcm : c ≤ 9223372036854775807) (he : (sizeF l).2 = 0) (hn : (sizeF l).1 = 8 + k) (hl : 8 + k ≤ l.length) :
    Calls Try.prog 12 #[.slice (some x) l.length c] w fun e w' => (∃ v, e = .returned (.tuple #[v, .int .i64 (if l.take 8 = head ((l.drop 8).take k) then (8 + (k : Int)) else 0), .int .i64 (if l.take 8 = head ((l.drop 8).take k) then 0 else 8)]) ∧ Own8 w' w.heap.size 5 v (if l.take 8 = head ((l.drop 8).take k) then (l.drop 8).take k else [])) ∧ Below w.heap.size w w' := by
  have hk : k ≤ 4096 := by have := (sizeF_le l).1; omega
  have hs := size_calls (some x) c l w hr hc hm
  rw [hn, he, Int.natCast_add] at hs
  have HS := Lib.hid (And.intro hs (And.intro hr (And.intro hl hc)))
  have e1 : (8 : Int) + (k : Int) - 8 = (k : Int) := by omega
  have t1 : ¬ (l.length : Int) < 8 + (k : Int) := by omega
  have hmk := fun (w : World) => run_make_row' (P := Try.prog) 22 5 (.int .u8 0) 1 Try.underlying22 info8 rfl .i64 .i64 k (by omega) (by omega) w
  obtain ⟨ad, S2, R2⟩ := sl_mid (P := Try.prog) (t := 22) Try.underlying22 size8 (some x) l.length c 8 (8 + k) 8 (8 + (k : Int)) rfl (by omega) (by omega) (by omega)
  have hld := R2 w l rfl hl hr
  rw [show 8 + k - 8 = k from by omega] at S2 hld
  have HL := Lib.hid hld
  clear hs hr hc hm hcm he hn hl R2 hld
  go_enter Try.func12, Try.ntmps12
  go_wp2_with fail
  refine HS.out.1.mono ?_
  rintro e w' ⟨rfl, hb⟩
  have hm1 : (w'.alloc (.cells (madeCells #[.int .u8 0] k) 5)).heap[w'.heap.size]? = some (.cells (((List.replicate k 0) : List UInt8).map v8).toArray 5 (0, 0)) := by
    rw [heap_alloc_new, made_eq]; simp [v8]
  have hrl := HL.out.below (hb.trans ((below_alloc1 w' (.cells (madeCells #[.int .u8 0] k) 5)).mono hb.size))
  have hcl : (((l.drop 8).take k).map v8).length = Nat.min k k := by have := HS.out.2.2.1; simp; omega
  have hfit : 0 + (((l.drop 8).take k).map v8).length ≤ (((List.replicate k 0) : List UInt8).map v8).length := by simp; omega
  have HM := Lib.hid (And.intro hm1 (And.intro hcl (And.intro hfit hrl)))
  clear hm1 hrl hcl hfit
  go_wp2_with (first | ((with_reducible show wpList _ _ _ _ _ _); refine wpList_copy_splice rfl (Operand.tmp 26) (Operand.tmp 29) 22 22 rfl 5 Try.underlying22 size1 (some ⟨w'.heap.size, 0, none⟩) ad k k k (c - 8) rfl rfl w'.heap.size 0 (((List.replicate k 0) : List UInt8).map v8) 5 HM.out.1 (((l.drop 8).take k).map v8) HM.out.2.1 (fun h => ⟨rfl, cells_row HM.out.2.2.2 h⟩) HM.out.2.2.1 (one_cells _) w'.heap.size w' (below_alloc1 _ _) (Nat.le_refl _) ?_; intro w2 hcp hb2; have F2 := after1 hb hb2 (take_drop_len HS.out.2.2.1) (by have := take_drop_len HS.out.2.2.1; unfold maxLen; omega) hcp HS.out.2.1; clear hcp hb2) | ((with_reducible show wpList _ _ _ _ _ _); refine wpList_copy_splice rfl (Operand.tmp 31) (Operand.tmp 32) 22 22 rfl 5 Try.underlying22 size1 (some ⟨w2.heap.size, 0, none⟩) (some x) 8 8 l.length c rfl rfl w2.heap.size 0 (([0, 0, 0, 0, 0, 0, 0, 0] : List UInt8).map v8) 48 F2.out.2.2.1 ((l.take 8).map v8) (min8 HS.out.2.2.1) (fun h => ⟨rfl, cells_row (F2.out.2.2.2.take 8) h⟩) (fit8 HS.out.2.2.1) (one_cells _) w2.heap.size w2 (below_alloc1 _ _) (Nat.le_refl _) ?_; intro w3 hcp3 hb3))
  have hc3 := hcp3.out
  rw [splice_v8, splice8 HS.out.2.2.1] at hc3
  have hbw3 : Below w.heap.size w w3 := F2.out.2.1.trans (hb3.mono F2.out.2.1.size)
  have hO : Own8 w3 w.heap.size 5 (.slice (some ⟨w'.heap.size, 0, none⟩) k k) ((l.drop 8).take k) := Own8.below F2.out.1 hb3
  clear hcp3 hb3
  have hrw := (own_row_at hO).1
  have hk2 := take_drop_len HS.out.2.2.1
  have hr3 : w3.rangeAt w2.heap.size 0 ((l.take 8).map v8) := range_of_heap hc3
  have hl8 : (l.take 8).length = 8 := by have := HS.out.2.2.1; simp; omega
  have HK := Lib.hid (And.intro hrw (And.intro hk2 hl8))
  have HO := Lib.hid hO
  have hneq := neq_head (l.take 8) (head ((l.drop 8).take k)) hl8 (length_head _)
  obtain ⟨bb, hbb⟩ : ∃ bb, bb = (l.take 8 == head ((l.drop 8).take k)) := ⟨_, rfl⟩
  rw [← hbb] at hneq
  have HB := Lib.hid hbb
  clear hbb
  obtain ⟨m, hm⟩ : ∃ m, m = l.take 8 := ⟨_, rfl⟩
  rw [← hm] at hneq hr3 hl8
  have HM8 := Lib.hid hm
  clear hm
  obtain ⟨a0, a1, a2, a3, a4, a5, a6, a7, rfl⟩ := eight hl8
  simp only [List.map_cons, List.map_nil] at hneq
  have hS := range8 hr3
  have HR := Lib.hid hr3
  clear hrw hk2 hl8 hO hc3 hr3
  go_region_held3 (fun W => W.cell? ⟨w2.heap.size, 0, none⟩ = some (v8 a0) ∧ W.cell? ⟨w2.heap.size, 1, none⟩ = some (v8 a1) ∧ W.cell? ⟨w2.heap.size, 2, none⟩ = some (v8 a2) ∧ W.cell? ⟨w2.heap.size, 3, none⟩ = some (v8 a3) ∧ W.cell? ⟨w2.heap.size, 4, none⟩ = some (v8 a4) ∧ W.cell? ⟨w2.heap.size, 5, none⟩ = some (v8 a5) ∧ W.cell? ⟨w2.heap.size, 6, none⟩ = some (v8 a6) ∧ W.cell? ⟨w2.heap.size, 7, none⟩ = some (v8 a7)) (first | exact hS | exact range8 (range_below HR.out hb4)) (first | (go_at_call 25; ((with_reducible refine (laid_calls' (w0 := w3) _ _ _ _ HK.out.2.1 HK.out.1 (by repeat (first | exact Below.refl _ _ | assumption | apply Below.drew | apply below_drewN | (refine Below.alloc ?_ (by first | (simp; done) | omega | (simp; omega)) _))) (by omega)).mono ?_); rintro e w' ⟨rfl, hb4⟩)))
  clear hS hneq HL HM S2 hmk HR
  have hO' := Own8.below HO.out hb4
  have hbF := hbw3.trans (hb4.mono hbw3.size)
  have HF := Lib.hid (And.intro hO' hbF)
  clear hO' hbF hbw3 hb4 hb HK F2 HO
  rcases bb with _ | _
  · have hne : ¬ l.take 8 = head ((l.drop 8).take k) := by have := HB.out; simpa using this
    have HN := Lib.hid hne
    clear hne
    go_wp2_with fail
    go_ret3
    simp only [HN.out, if_false]
    exact ⟨⟨_, rfl, Own8.nil _ _ _⟩, HF.out.2⟩
  · have hne : l.take 8 = head ((l.drop 8).take k) := by have := HB.out; simpa using this
    have HN := Lib.hid hne
    clear hne
    go_wp2_with fail
    go_ret3
    simp only [HN.out, if_true]
    exact ⟨⟨_, rfl, HF.out.1⟩, HF.out.2⟩

/-- THE NEXT FRAME. -/
theorem next_calls (a : Option Addr) (c : Nat) (l : List UInt8) (w : World) (hr : Row8 w a l) (hc : l.length ≤ c) (hm : l.length ≤ 9223372036854775000) (hcm : c ≤ 9223372036854775807) :
    Calls Try.prog 12 #[.slice a l.length c] w fun e w' => ∃ v, e = .returned (.tuple #[v, .int .i64 ((nextF l).2.1 : Int), .int .i64 ((nextF l).2.2 : Int)]) ∧ Own8 w' w.heap.size 5 v (nextF l).1 ∧ Below w.heap.size w w' := by
  by_cases he : (sizeF l).2 = 0
  · by_cases hn : l.length < (sizeF l).1
    · refine (next_short a c l w hr hc hm he hn).mono ?_
      rintro e w' ⟨rfl, hb⟩
      have : nextF l = ([], 0, 4) := by unfold nextF; rw [if_neg (by omega), if_pos hn]
      rw [this]
      exact ⟨_, rfl, Own8.nil _ _ _, hb⟩
    · have h8 := (sizeF_le l).2.2 he
      obtain ⟨x, rfl, _⟩ : ∃ x, a = some x ∧ True := by
        rcases hr with rfl | ⟨x, rfl, _⟩
        · simp at hn; omega
        · exact ⟨x, rfl, trivial⟩
      refine (next_rest x c l ((sizeF l).1 - 8) w hr hc hm hcm he (by omega) (by omega)).mono ?_
      rintro e w' ⟨⟨v, rfl, ho⟩, hb⟩
      have he' : ¬ (sizeF l).2 ≠ 0 := fun h => h he
      by_cases h : l.take 8 = head ((l.drop 8).take ((sizeF l).1 - 8))
      · have hx : nextF l = ((l.drop 8).take ((sizeF l).1 - 8), (sizeF l).1, 0) := by
          unfold nextF; rw [if_neg he', if_neg hn, if_pos h]
        rw [if_pos h] at ho
        rw [hx, if_pos h, if_pos h]
        exact ⟨v, by rw [show (8 : Int) + (((sizeF l).1 - 8 : Nat) : Int) = ((sizeF l).1 : Int) from by omega]; rfl, ho, hb⟩
      · have hx : nextF l = ([], 0, 8) := by
          unfold nextF; rw [if_neg he', if_neg hn, if_neg h]
        rw [if_neg h] at ho
        rw [hx, if_neg h, if_neg h]
        exact ⟨v, rfl, ho, hb⟩
  · refine (next_err a c l w hr hc hm he).mono ?_
    rintro e w' ⟨rfl, hb⟩
    have : nextF l = ([], 0, (sizeF l).2) := by unfold nextF; rw [if_pos he]
    rw [this]
    exact ⟨_, rfl, Own8.nil _ _ _, hb⟩
end Go.Proofs.Ytjngekbgfinidaa.Fr
