/- A slice of slices of bytes that came in. No program is in sight. -/
import Derived.Test.YtjngekbgfinidaaFrameAll
import Derived.Deep.Matrix
namespace Go.Proofs.Ytjngekbgfinidaa.Fr
set_option linter.unusedVariables false
set_option linter.unusedSimpArgs false
open Go.RowKit
open Go.Proofs.Ytjngekbgfinidaa.Num Go.Proofs.Ytjngekbgfinidaa.Crc

/-- The parts of a slice of slices. -/
def IsRows (w : World) (a : Option Addr) (len cap : Nat) (ps : List (Option Addr × Nat × List UInt8)) : Prop :=
  len = ps.length ∧ Parts w a ps ∧ (∀ p ∈ ps, p.1 = none → p.2.1 = 0) ∧ len ≤ cap ∧ cap ≤ 9223372036854775807 ∧ (a = none → cap = 0)
theorem rows_open {H : Type} {enc : TypeId × Value → H} {P : Program} {w : World} {base : Nat} {held : Bool} {t e q : TypeId} {fuel : Nat} {a : Option Addr} {len cap : Nat} {x : DataW H × List MemPlace} (ht : P.underlying t = some (.slice e)) (he : P.underlying e = some (.slice q)) (hq : P.underlying q = some (.int .u8))
    (ce : P.cellsOf e = 1) (cq : P.cellsOf q = 1) (h : DataW.trod enc P w base (fun _ => true) held fuel t [.slice a len cap] = some x) : ∃ ps, IsRows w a len cap ps := by
  rcases Deep.open_int_rows ht he hq ce cq h with ⟨hcs, _⟩ | ⟨y, l, c, A, L, C, Z, hcs, _, hl, hm, _, hr⟩
  · simp at hcs
    obtain ⟨rfl, rfl, rfl⟩ := hcs
    exact ⟨[], rfl, .inl rfl, fun p hp => by simp at hp, Nat.le_refl _, by omega, fun _ => rfl⟩
  · simp at hcs
    obtain ⟨rfl, rfl, rfl⟩ := hcs
    have each : ∀ r, r < len → ∃ m : List UInt8, L r = m.length ∧ Row8 w (A r) m ∧ L r ≤ C r ∧ C r ≤ 9223372036854775807 ∧ (A r = none → C r = 0) := by
      intro r hrl
      obtain ⟨_, h1, h2, h3, h4, h5, h6⟩ := hr r (by omega)
      have hrow : IsRow .u8 w (A r) (L r) (C r) (Z r) := by
        cases hA : A r with
        | none =>
          have hC := h5 hA
          have hL : L r = 0 := by omega
          have hZ : Z r = [] := List.eq_nil_of_length_eq_zero (by omega)
          rw [hC, hL, hZ]
          exact .inl ⟨rfl, rfl, rfl, rfl⟩
        | some a' =>
          obtain ⟨_, hc⟩ := h6 a' hA
          exact .inr ⟨a', rfl, h1, h2, h3, fun i hi => hc i (by omega), h4⟩
      obtain ⟨m, e1, e2, e3, e4, e5⟩ := hrow.bytes
      exact ⟨m, e1, e2, e3, e4, e5⟩
    obtain ⟨m, hmm⟩ := Deep.choose_lt each
    refine ⟨(List.range len).map fun r => (A r, C r, m r), by simp, .inr ⟨y, rfl, fun i hi => ?_⟩, fun p hp hn => ?_, hl, by unfold maxLen at hm; omega, fun h => by cases h⟩
    · have hi2 : i < len := by simpa using hi
      obtain ⟨e1, e2, e3, e4, _⟩ := hmm i hi2
      obtain ⟨hcell, _⟩ := hr i (by omega)
      simp only [List.getElem_map, List.getElem_range]
      rw [← e1]
      exact ⟨hcell, e2, by omega⟩
    · obtain ⟨r, hr1, rfl⟩ := List.mem_map.1 hp
      exact (hmm r (by simpa using hr1)).2.2.2.2 hn
end Go.Proofs.Ytjngekbgfinidaa.Fr
