/- From what the rows list to the table's cells. -/
import Derived.Test.YtcgbjodeklknoaaDoorRows
import Derived.Test.YtcgbjodeklknoaaDoorTzWalk
import Derived.OpenShut
import Derived.LaidMore
import Derived.Lay
import Derived.LaidOnce
import Derived.ProofKit
namespace Go.Proofs.YtcgbjodeklknoaaDoor.Bit
set_option linter.unusedVariables false
set_option linter.unusedSimpArgs false
open Go.RowKit Go.WideShapes Go.ChangeShapes

theorem tab_datum {H : Type} : (Rows.laid_math_bits_deBruijn64tab : DataW H) = .agg (Lib.deBruijn64tab.map fun n : Nat => .lit (.int .u8 (n : Int))) := by
  unfold Rows.laid_math_bits_deBruijn64tab Lib.deBruijn64tab
  rfl
theorem tab_of_laid {W : World} (h : laidMetH Tryd.prog [("math/bits.deBruijn64tab", Rows.laid_math_bits_deBruijn64tab)] W) : TabAt 0 Lib.deBruijn64tab W := by
  rw [MakeChecks.laidMetH_plain _ _ _ (by kernel_rfl)] at h
  obtain ⟨ps, ⟨g, t, cs, fuel, p, q, hg, ht, hv, hd, _, _⟩, _⟩ := h
  obtain rfl := Option.some.inj ((show Tryd.prog.globalNamed "math/bits.deBruijn64tab" = some 0 by kernel_rfl).symm.trans hg)
  obtain rfl := Option.some.inj ((show (Tryd.prog.globals[0]?).map (·.type) = some 97 by kernel_rfl).symm.trans ht)
  have c5 : Tryd.prog.cellsOf 5 = 1 := by kernel_rfl
  have c57 : Tryd.prog.cellsOf 97 = 64 := by kernel_rfl
  obtain ⟨xs, m, _, ex, hlen, hl, hel⟩ := DataW.trod_array Tryd.underlying97 hd
  rw [c57] at hlen
  rw [tab_datum] at ex
  have e3 := DataW.agg.inj (Prod.mk.inj ex).1
  intro j hj
  have hj64 : j < 64 := hj
  have k := hel j hj64
  rw [c5, Nat.mul_one] at k
  obtain ⟨x, hx⟩ : ∃ x, xs[j]? = some x := ⟨xs[j]'(by omega), List.getElem?_eq_getElem (by omega)⟩
  rw [hx] at k
  obtain ⟨z, hz1, hz2, _⟩ := DataW.trod_int Tryd.underlying5 k
  have e4 := congrArg (fun l => l[j]?) e3
  simp only [List.getElem?_map, hx] at e4
  rw [hz2] at e4
  have hjl : Lib.deBruijn64tab[j]? = some (Lib.deBruijn64tab.getD j 0) := by
    rw [List.getD_eq_getElem?_getD, List.getElem?_eq_getElem hj]; rfl
  rw [hjl] at e4
  simp at e4
  rw [World.var?_cell hg hv j]
  have hcj : cs.toList[j]? = some (.int .u8 z) := by
    have h1 := congrArg (fun l => l[0]?) hz1
    simpa [List.getElem?_take, List.getElem?_drop] using h1
  rw [← Array.getElem?_toList, hcj, ← e4]
  simp [List.getD_eq_getElem?_getD]
end Go.Proofs.YtcgbjodeklknoaaDoor.Bit
