/- Two numbers that came in by value, as an array. -/
import Derived.Test.YtocbogagfdbcmaaCrcBoth
import Derived.ProofKit
import Derived.OpenShut
namespace Go.Proofs.Ytocbogagfdbcmaa.Crc
set_option linter.unusedVariables false
set_option linter.unusedSimpArgs false
open Go.ChangeShapes Go.WideShapes Go.RowKit

theorem cells32 : Try.prog.cellsOf 23 = 1 := by kernel_rfl
theorem cellsP : Try.prog.cellsOf 33 = 2 := by kernel_rfl
section
variable {H : Type} {enc : TypeId × Value → H} {w : World} {base : Nat} {spare : Nat → Bool} {held : Bool}
theorem word_of {n : Nat} {c : Value} {x : DataW H × List MemPlace} (h : DataW.trod enc Try.prog w base spare held n 23 [c] = some x) : ∃ k : Nat, c = .int .u32 (k : Int) ∧ k < 4294967296 := by
  obtain ⟨z, hz1, _, hz2⟩ := DataW.trod_int Try.underlying23 h
  simp only [List.cons.injEq, and_true] at hz1
  obtain ⟨k, rfl, hk⟩ := in_u32 hz2
  exact ⟨k, hz1, hk⟩
theorem okWide_arr {P : Program} {r : Reach} {b0 n : Nat} {t e : TypeId} {v : Value} (ht : P.underlying t = some (.array n e)) (h : Value.okWide P w r b0 t v) : ∃ cs, v = .agg cs ∧ cs.size = P.cellsOf t := by
  simp only [Value.okWide, ht] at h
  obtain ⟨cs, h1, h2, _⟩ := h
  exact ⟨cs, h1, h2⟩
theorem pair_open {r : Reach} {b0 : Nat} {v : Value} {d : DataW H} {p : List MemPlace} (hv : Value.okWide Try.prog w r b0 33 v) (h : DataW.Trod enc Try.prog w base spare held 33 v d p) : ∃ n m : Nat, v = .agg #[.int .u32 (n : Int), .int .u32 (m : Int)] ∧ n < 4294967296 ∧ m < 4294967296 := by
  obtain ⟨cs, rfl, hsz⟩ := okWide_arr Try.underlying33 hv
  rw [cellsP] at hsz
  obtain ⟨l⟩ := cs
  match l, hsz with
  | [c0, c1], _ =>
    obtain ⟨fuel, hf⟩ := h
    obtain ⟨xs, m, _, _, _, hl, hy⟩ := DataW.trod_array Try.underlying33 hf
    have y0 := hy 0 (by omega)
    have y1 := hy 1 (by omega)
    rw [List.getElem?_eq_getElem (by omega)] at y0 y1
    simp only [cells32, Value.cells] at y0 y1
    obtain ⟨n, rfl, hn⟩ := word_of (c := c0) y0
    obtain ⟨k, rfl, hk⟩ := word_of (c := c1) y1
    exact ⟨n, k, rfl, hn, hk⟩
end
end Go.Proofs.Ytocbogagfdbcmaa.Crc
