/- The walk of the law package's 'alive', and of the law on long texts. -/
import Derived.Test.YtbkhfkefkojdbaaDoorBitTop
import Derived.Deep.RegionHeld3
namespace Go.Proofs.YtbkhfkefkojdbaaDoor.Bit
set_option linter.unusedVariables false
set_option linter.unusedSimpArgs false
open Go.RowKit
open Go.Proofs.YtbkhfkefkojdbaaDoor.Num

theorem same_own_row {w0 : World} {base : Nat} {v : Value} {l l' : List UInt8} (h : Own8 w0 base 5 v l) (A : Option Addr) (n c : Nat) (hn : n = l'.length) (h' : Row8 w0 A l') {w : World} (hb : Below w0.heap.size w0 w) :
    Calls Tryd.prog 10 #[v, .slice A n c] w fun e w' => e = .returned (.bool (decide (l = l'))) ∧ w = w' := by
  subst hn
  obtain ⟨A', c', rfl, hr, _⟩ := (h.below hb).row
  exact same_calls A' c' l A c l' w hr (h'.below hb)
theorem long_own {w : World} {base : Nat} {v : Value} {l : List UInt8} (h : Own8 w base 5 v l) (hm : l.length ≤ 9223372036854775807) :
    Calls Tryd.prog 8 #[v] w fun e w' => e = .returned (.tuple #[.int .u64 ((long l).1 : Int), .int .i64 ((long l).2.1 : Int), .int .i64 ((long l).2.2 : Int)]) ∧ w = w' := by
  obtain ⟨A, c, rfl, hr, _⟩ := h.row
  exact long_calls A c l w hr hm
theorem short_nil (n : Nat) (w : World) (hn : n < 18446744073709551616) :
    Calls Tryd.prog 11 #[.slice none 0 0, .int .u64 (n : Int)] w fun e w' => ∃ v, e = .returned v ∧ Own8 w' w.heap.size 5 v (short n) ∧ Below w.heap.size w w' := by
  have := short_calls none 0 [] n w (.inl rfl) (fun _ => rfl) (by simp) hn
  rw [List.nil_append] at this
  exact this
theorem long300 : long [0xAC, 2] = (300, 2, 0) := by decide +kernel
theorem short300 : short 300 = [0xAC, 2] := by decide +kernel
set_option maxRecDepth 100000 in
theorem alive_calls (w : World) (hT : TabAt 0 Lib.deBruijn64tab w) (hw : 0 < w.heap.size) :
    Calls Tryd.prog 9 #[] w fun e w' => e = .returned (.bool true) ∧ Below w.heap.size w w' := by
  have G := Lib.hid hT
  clear hT
  go_enter Tryd.func9, Tryd.ntmps9
  go_wp2_with fail
  refine (short_nil 300 w (by omega)).mono ?_
  rintro e w1 ⟨v, rfl, ho, hb⟩
  rw [short300] at ho
  have H1 := Lib.hid (And.intro ho hb)
  have hz := hb.size
  clear ho hb
  go_wp2_with fail
  refine (long_own H1.out.1 (by simp)).mono ?_
  rintro e w' ⟨rfl, rfl⟩
  rw [long300]
  have hr2 : Row8 (w1.alloc (.cells #[.int .u8 172, .int .u8 2] 5)) (some ⟨w1.heap.size, 0, none⟩) [0xAC, 2] := Row8.lit (heap_alloc_new _ _) rfl
  have HR := Lib.hid hr2
  clear hr2
  go_wp2_with fail
  refine (same_own_row (H1.out.1.below (below_alloc1 _ _)) (some ⟨w1.heap.size, 0, none⟩) 2 2 rfl HR.out (Below.refl _ _)).mono ?_
  rintro e w' ⟨rfl, rfl⟩
  rw [decide_eq_true rfl]
  have HB := Lib.hid (H1.out.2.trans ((below_alloc1 w1 (.cells #[.int .u8 172, .int .u8 2] 5)).mono H1.out.2.size))
  generalize w1.alloc (.cells #[.int .u8 172, .int .u8 2] 5) = w2 at HB ⊢
  go_wp2_with fail
  refine (fold_calls (-1) (by omega) (by omega) _).mono ?_
  rintro e w' ⟨rfl, rfl⟩
  rw [show (foldF (-1) : Int) = 1 from by decide]
  go_wp2_with fail
  refine (list_calls 5 (by omega) _ (tab_below G.out HB.out hw) (by have := HB.out.size; omega)).mono ?_
  rintro e w3 ⟨v3, rfl, ho3, hb3⟩
  rw [show elems 5 = [0, 2] from by decide] at ho3
  obtain ⟨A3, c3, rfl, hr3⟩ := own_ints ho3
  have H3 := Lib.hid (And.intro (hr3.below (below_alloc1 w3 (.cells #[.int .i64 0, .int .i64 2] 3))) (HB.out.trans (hb3.mono HB.out.size)))
  have hl3 : RowI (w3.alloc (.cells #[.int .i64 0, .int .i64 2] 3)) (some ⟨w3.heap.size, 0, none⟩) [0, 2] := by
    refine .inr ⟨_, rfl, fun i hi => ?_⟩
    have h2 : i = 0 ∨ i = 1 := by simp at hi; omega
    rcases h2 with rfl | rfl
    · exact (cell_block (heap_alloc_new _ _)).trans rfl
    · exact (cell_block (heap_alloc_new _ _)).trans rfl
  have HL := Lib.hid hl3
  clear hl3 ho3 hr3 hb3
  go_wp2_with fail
  refine (ints_calls A3 c3 [0, 2] (some ⟨w3.heap.size, 0, none⟩) 2 [0, 2] _ H3.out.1 HL.out (by simp)).mono ?_
  rintro e w4 ⟨rfl, hb4⟩
  rw [decide_eq_true rfl]
  have H4 := Lib.hid (H3.out.2.trans (((below_alloc1 w3 (.cells #[.int .i64 0, .int .i64 2] 3)).trans (hb4.mono (by simp))).mono H3.out.2.size))
  clear hb4
  go_wp2_with fail
  refine (has_calls 5 2 (by omega) (by omega) (by omega) _).mono ?_
  rintro e w' ⟨rfl, rfl⟩
  rw [show hasF 5 2 = true from by decide]
  go_wp2_with fail
  go_ret
  exact ⟨rfl, H4.out⟩

theorem short_nilD {w0 w : World} (n : Nat) (hb0 : Below w0.heap.size w0 w) (hn : n < 18446744073709551616) :
    Calls Tryd.prog 11 #[.slice none 0 0, .int .u64 (n : Int)] w fun e w' => ∃ v, e = .returned v ∧ Own8 w' w0.heap.size 5 v (short n) ∧ Below w0.heap.size w0 w' := by
  refine (short_nil n w hn).mono ?_
  rintro e w' ⟨v, rfl, ho, hb⟩
  exact ⟨v, rfl, ho.mono hb0.size, hb0.trans (hb.mono hb0.size)⟩
theorem same_own_rowD {w0 : World} {base : Nat} {v : Value} {l l' : List UInt8} (h : Own8 w0 base 5 v l) (A : Option Addr) (n c : Nat) (hn : n = l'.length) (h' : Row8 w0 A l') {w : World} (hb : Below w0.heap.size w0 w) (e : l = l') :
    Calls Tryd.prog 10 #[v, .slice A n c] w fun e w' => e = .returned (.bool true) ∧ w = w' := by
  have := same_own_row h A n c hn h' hb
  rw [decide_eq_true e] at this
  exact this
theorem alive_D {w0 w : World} (hT : TabAt 0 Lib.deBruijn64tab w0) (hw : 0 < w0.heap.size) (hb0 : Below w0.heap.size w0 w) :
    Calls Tryd.prog 9 #[] w fun e w' => e = .returned (.bool true) ∧ Below w0.heap.size w0 w' := by
  refine (alive_calls w (tab_below hT hb0 hw) (by have := hb0.size; omega)).mono ?_
  rintro e w' ⟨rfl, hb⟩
  exact ⟨rfl, hb0.trans (hb.mono hb0.size)⟩
set_option maxRecDepth 100000 in
theorem BitsOne_walk (a : Option Addr) (c : Nat) (l : List UInt8) (w : World) (hr : Row8 w a l) (hc : l.length ≤ c) (hcm : c ≤ 9223372036854775807) (hT : TabAt 0 Lib.deBruijn64tab w) (hw : 0 < w.heap.size) :
    Calls Tryd.prog 3 #[.slice a l.length c] w fun e w' => e = .returned (.bool true) ∧ Below w.heap.size w w' := by
  have hlong := long_calls a c l w hr (by omega)
  have hok := long_ok l
  have herr := longG_err l 0 0
  have h4 := longG_le4 l 0 0
  change (long l).2.2 ≠ 0 → (long l).1 = 0 ∧ (long l).2.1 = 0 at herr
  change (long l).2.2 ≤ 4 at h4
  obtain ⟨y, ey⟩ : ∃ y, y = long l := ⟨_, rfl⟩
  rw [← ey] at hlong hok herr h4
  obtain ⟨n, k, e⟩ := y
  simp only at hlong hok herr h4
  by_cases h0 : e = 0
  · subst h0
    obtain ⟨h1, h2, h3, h5, h6⟩ := hok rfl
    have S1 := sl_hi (P := Tryd.prog) (t := 22) Tryd.underlying22 size8 a l.length c k (by omega)
    have hkl : k = (l.take k).length := by rw [List.length_take]; omega
    have G := Lib.hid (And.intro hlong (And.intro hT (And.intro (hr.take k) (And.intro hkl (And.intro h6 h5)))))
    clear hlong hT hr hkl h6 hok herr ey h4
    go_enter Tryd.func3, Tryd.ntmps3
    go_wp2_with fail
    refine G.out.1.mono ?_
    rintro e w' ⟨rfl, rfl⟩
    go_wp2_with fail
    have d1 : decide ((1 : Int) ≤ (k : Int)) = true := decide_eq_true (by omega)
    have d2 : decide ((k : Int) ≤ (l.length : Int)) = true := decide_eq_true (by omega)
    go_region_held3 (fun _ => True) (trivial) (first | (go_at_call 11; ((with_reducible refine (short_nilD (w0 := w) n (by repeat (first | exact Below.refl _ _ | assumption | apply Below.drew | apply below_drewN | (refine Below.alloc ?_ (by first | (simp; done) | omega | (simp; omega)) _))) G.out.2.2.2.2.2).mono ?_); rintro e w' ⟨v, rfl, ho, hb⟩)) | (go_at_call 10; ((with_reducible refine (same_own_rowD ho a k c (l' := l.take k) G.out.2.2.2.1 (G.out.2.2.1.below hb) (by repeat (first | exact Below.refl _ _ | assumption | apply Below.drew | apply below_drewN | (refine Below.alloc ?_ (by first | (simp; done) | omega | (simp; omega)) _))) G.out.2.2.2.2.1).mono ?_); rintro e w' ⟨rfl, rfl⟩)) | (go_at_call 9; ((with_reducible refine (alive_D (w0 := w) G.out.2.1 hw (by repeat (first | exact Below.refl _ _ | assumption | apply Below.drew | apply below_drewN | (refine Below.alloc ?_ (by first | (simp; done) | omega | (simp; omega)) _)))).mono ?_); rintro e w' ⟨rfl, hb3⟩)))
    go_wp2_with fail
    go_ret
    exact ⟨rfl, hb3⟩
  · obtain ⟨rfl, rfl⟩ := herr h0
    have hne : ((e : Int) != 0) = true := by rw [bne_iff_ne]; omega
    have G := Lib.hid (And.intro hlong hT)
    clear hlong hT hr hok herr ey h0
    go_enter Tryd.func3, Tryd.ntmps3
    go_wp2_with fail
    refine G.out.1.mono ?_
    rintro e w' ⟨rfl, rfl⟩
    go_wp2_with fail
    refine (alive_calls _ G.out.2 hw).mono ?_
    rintro e w3 ⟨rfl, hb3⟩
    go_wp2_with fail
    go_ret
    exact ⟨rfl, hb3⟩
end Go.Proofs.YtbkhfkefkojdbaaDoor.Bit
