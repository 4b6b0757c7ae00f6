/- A configuration that came in by value: what it is. -/
import Derived.Test.YtcgbjodeklknoaaDoorVOf
import Derived.ProofKit
import Derived.OpenShut
namespace Go.Proofs.YtcgbjodeklknoaaDoor.Vo
set_option linter.unusedVariables false
set_option linter.unusedSimpArgs false
open Go.ChangeShapes Go.WideShapes Go.RowKit

theorem cells1 : Tryd.prog.cellsOf 5 = 1 := by kernel_rfl
theorem cells4 : Tryd.prog.cellsOf 22 = 1 := by kernel_rfl
theorem cellsV : Tryd.prog.cellsOf 23 = 8 := by kernel_rfl
theorem cellsC : Tryd.prog.cellsOf 25 = 11 := by kernel_rfl
theorem array11 {α : Type} {cs : Array α} (h : cs.size = 11) : ∃ c0 c1 c2 c3 c4 c5 c6 c7 c8 c9 c10, cs = #[c0, c1, c2, c3, c4, c5, c6, c7, c8, c9, c10] := by
  obtain ⟨l⟩ := cs
  match l, h with
  | [c0, c1, c2, c3, c4, c5, c6, c7, c8, c9, c10], _ => exact ⟨c0, c1, c2, c3, c4, c5, c6, c7, c8, c9, c10, rfl⟩
section
variable {H : Type} {enc : TypeId × Value → H} {w : World} {base : Nat} {spare : Nat → Bool} {held : Bool}
theorem byte_of {n : Nat} {c : Value} {x : Option (DataW H × List MemPlace)} (h : DataW.trod enc Tryd.prog w base spare held n 5 [c] = x) (hx : x ≠ none) : ∃ k : Nat, c = .int .u8 (k : Int) ∧ k < 256 := by
  cases x with
  | none => exact absurd rfl hx
  | some y =>
    obtain ⟨z, hz1, _, hz2⟩ := DataW.trod_int Tryd.underlying5 h
    simp only [List.cons.injEq, and_true] at hz1
    have := wf_u8 hz2
    exact ⟨z.toNat, by rw [hz1]; congr 1; omega, by omega⟩
theorem word_of {n : Nat} {c : Value} {x : Option (DataW H × List MemPlace)} (h : DataW.trod enc Tryd.prog w base spare held n 22 [c] = x) (hx : x ≠ none) : ∃ k : Nat, c = .int .u32 (k : Int) ∧ k < 4294967296 := by
  cases x with
  | none => exact absurd rfl hx
  | some y =>
    obtain ⟨z, hz1, _, hz2⟩ := DataW.trod_int Tryd.underlying22 h
    simp only [List.cons.injEq, and_true] at hz1
    obtain ⟨k, rfl, hk⟩ := in_u32 hz2
    exact ⟨k, hz1, hk⟩
theorem cf_open {r : Reach} {b0 : Nat} {v : Value} {d : DataW H} {p : List MemPlace} (hv : Value.okWide Tryd.prog w r b0 25 v) (h : DataW.Trod enc Tryd.prog w base spare held 25 v d p) : ∃ c : Cf, v = c.val ∧ c.Ok := by
  obtain ⟨cs, rfl, hsz⟩ := okWide_struct Tryd.underlying25 hv
  obtain ⟨c0, c1, c2, c3, c4, c5, c6, c7, c8, c9, c10, rfl⟩ := array11 (hsz.trans cellsC)
  obtain ⟨fuel, hf⟩ := h
  obtain ⟨xs, n, _, _, _, hl, hx⟩ := DataW.trod_struct Tryd.underlying25 hf
  have hl4 : xs.length = 4 := hl
  have n0 : xs[0]? ≠ none := by rw [List.getElem?_eq_getElem (by omega)]; simp
  have n1 : xs[1]? ≠ none := by rw [List.getElem?_eq_getElem (by omega)]; simp
  have n2 : xs[2]? ≠ none := by rw [List.getElem?_eq_getElem (by omega)]; simp
  have x0 := hx 0 _ rfl
  have x1 := hx 1 _ rfl
  have x2 := hx 2 _ rfl
  have x3 := hx 3 _ rfl
  simp only [cells1, cells4, cellsV, Value.cells] at x0 x1 x2 x3
  obtain ⟨e, rfl, he⟩ := word_of (c := c0) x0 n0
  obtain ⟨q0, rfl, hq0⟩ := byte_of (c := c1) x1 n1
  obtain ⟨q1, rfl, hq1⟩ := byte_of (c := c2) x2 n2
  rw [List.getElem?_eq_getElem (by omega : 3 < xs.length)] at x3
  obtain ⟨ys, m, _, _, _, hl8, hy⟩ := DataW.trod_array Tryd.underlying23 x3
  have ny : ∀ i, i < 8 → ys[i]? ≠ none := fun i hi => by rw [List.getElem?_eq_getElem (by omega)]; simp
  have y0 := hy 0 (by omega)
  have y1 := hy 1 (by omega)
  have y2 := hy 2 (by omega)
  have y3 := hy 3 (by omega)
  have y4 := hy 4 (by omega)
  have y5 := hy 5 (by omega)
  have y6 := hy 6 (by omega)
  have y7 := hy 7 (by omega)
  simp only [cells1] at y0 y1 y2 y3 y4 y5 y6 y7
  obtain ⟨v0, rfl, h0⟩ := byte_of (c := c3) y0 (ny 0 (by omega))
  obtain ⟨v1, rfl, h1⟩ := byte_of (c := c4) y1 (ny 1 (by omega))
  obtain ⟨v2, rfl, h2⟩ := byte_of (c := c5) y2 (ny 2 (by omega))
  obtain ⟨v3, rfl, h3⟩ := byte_of (c := c6) y3 (ny 3 (by omega))
  obtain ⟨v4, rfl, h4⟩ := byte_of (c := c7) y4 (ny 4 (by omega))
  obtain ⟨v5, rfl, h5⟩ := byte_of (c := c8) y5 (ny 5 (by omega))
  obtain ⟨v6, rfl, h6⟩ := byte_of (c := c9) y6 (ny 6 (by omega))
  obtain ⟨v7, rfl, h7⟩ := byte_of (c := c10) y7 (ny 7 (by omega))
  refine ⟨⟨e, q0, q1, v0, v1, v2, v3, v4, v5, v6, v7⟩, rfl, he, hq0, hq1, ?_⟩
  intro x hx
  simp only [Cf.V, List.mem_cons, List.not_mem_nil, or_false] at hx
  rcases hx with rfl | rfl | rfl | rfl | rfl | rfl | rfl | rfl <;> assumption
end
end Go.Proofs.YtcgbjodeklknoaaDoor.Vo
