/- The walk of the sum of any parts. -/
import Derived.Test.YtocbogagfdbcmaaCrcStep
namespace Go.Proofs.Ytocbogagfdbcmaa.Crc
set_option linter.unusedVariables false
set_option linter.unusedSimpArgs false
open Go.RowKit

/-- The parts' bytes stand in memory: each an address, a capacity and its bytes. -/
def Parts (w : World) (a : Option Addr) (ps : List (Option Addr × Nat × List UInt8)) : Prop :=
  ps = [] ∨ ∃ x, a = some x ∧ ∀ i : Nat, ∀ h : i < ps.length, w.cell? (x.add i) = some (.slice ps[i].1 ps[i].2.2.length ps[i].2.1) ∧ Row8 w ps[i].1 ps[i].2.2 ∧ ps[i].2.2.length ≤ 9223372036854775807
/-- All their bytes. -/
def flat (ps : List (Option Addr × Nat × List UInt8)) : List UInt8 := ps.flatMap (fun p => p.2.2)

theorem flat_snoc (ps : List (Option Addr × Nat × List UInt8)) {k : Nat} (h : k < ps.length) : flat (ps.take (k + 1)) = flat (ps.take k) ++ ps[k].2.2 := by
  unfold flat; rw [List.take_succ_eq_append_getElem h, List.flatMap_append]; simp
set_option maxRecDepth 100000 in
theorem sum_calls (a : Option Addr) (c : Nat) (ps : List (Option Addr × Nat × List UInt8)) (w : World) (hr : Parts w a ps) (hm : ps.length ≤ 9223372036854775807) :
    Calls Try.prog 11 #[.slice a ps.length c] w fun e w' => e = .returned (.int .u32 (u (more 0#32 (flat ps)))) ∧ w = w' := by
  go_enter Try.func11, Try.ntmps11
  go_wp2_with fail
  go_loop [3, 8] (fun x i => ∃ k : Nat, k ≤ ps.length ∧ i = .int .i64 k ∧ x = .int .u32 (u (more 0#32 (flat (ps.take k))))) (fun _ i => ps.length - (intOf i).toNat)
  case atStart => exact ⟨0, by omega, rfl, by rw [show flat (ps.take 0) = [] from rfl, more_nil]; rfl⟩
  case round =>
    obtain ⟨k, hk, rfl, rfl⟩ := hrel
    by_cases hlt : k < ps.length
    · obtain ⟨x, rfl, hc⟩ : ∃ x, a = some x ∧ ∀ i : Nat, ∀ h : i < ps.length, w.cell? (x.add i) = some (.slice ps[i].1 ps[i].2.2.length ps[i].2.1) ∧ Row8 w ps[i].1 ps[i].2.2 ∧ ps[i].2.2.length ≤ 9223372036854775807 := by
        rcases hr with rfl | h
        · simp at hlt
        · exact h
      obtain ⟨hck, hrk, hlk⟩ := hc k hlt
      clear hc hr
      go_wp2_with fail
      refine (more_calls _ _ _ _ _ hrk hlk).mono ?_
      rintro e w' ⟨rfl, rfl⟩
      go_wp2_with fail
      go_round
      case rel => exact ⟨k + 1, by omega, by go_num, by rw [more_more, flat_snoc ps hlt]⟩
      case measure => simp [intOf]; omega
    · obtain rfl : k = ps.length := by omega
      go_wp2_with fail
      go_ret
      exact ⟨rfl, rfl⟩

theorem Parts.two {w : World} {a b : Option Addr} {c d : Nat} {l m : List UInt8} {g : Nat} {T : TypeId} (hg : w.heap[g]? = some (.cells #[.slice a l.length c, .slice b m.length d] T (0, 0))) (ha : Row8 w a l) (hb : Row8 w b m) (hl : l.length ≤ 9223372036854775807) (hm : m.length ≤ 9223372036854775807) :
    Parts w (some ⟨g, 0, none⟩) [(a, c, l), (b, d, m)] := by
  refine .inr ⟨_, rfl, fun i h => ?_⟩
  have hi : i = 0 ∨ i = 1 := by simp at h; omega
  rcases hi with rfl | rfl
  · exact ⟨(cell_block hg).trans rfl, ha, hl⟩
  · exact ⟨(cell_block hg).trans rfl, hb, hm⟩
theorem Parts.one {w : World} {a : Option Addr} {c : Nat} {l : List UInt8} {g : Nat} {T : TypeId} (hg : w.heap[g]? = some (.cells #[.slice a l.length c] T (0, 0))) (ha : Row8 w a l) (hl : l.length ≤ 9223372036854775807) :
    Parts w (some ⟨g, 0, none⟩) [(a, c, l)] := by
  refine .inr ⟨_, rfl, fun i h => ?_⟩
  have hi : i = 0 := by simp at h; omega
  subst hi
  exact ⟨(cell_block hg).trans rfl, ha, hl⟩

theorem sum3 {w0 W : World} (g : Nat) (a a2 : Option Addr) (c c2 : Nat) (l1 l2 : List UInt8) (h1 : Row8 w0 a l1) (h2 : Row8 w0 a2 l2) (k1 : l1.length ≤ 9223372036854775807) (k2 : l2.length ≤ 9223372036854775807) (hb : Below w0.heap.size w0 W)
    (hg : W.heap[g]? = some (.cells #[.slice a l1.length c, .slice none 0 0, .slice a2 l2.length c2] 22 (0, 0))) :
    Calls Try.prog 11 #[.slice (some ⟨g, 0, none⟩) 3 3] W fun e w' => e = .returned (.int .u32 (u (more 0#32 (l1 ++ l2)))) ∧ W = w' := by
  have hp : Parts W (some ⟨g, 0, none⟩) [(a, c, l1), (none, 0, []), (a2, c2, l2)] := by
    refine .inr ⟨_, rfl, fun i h => ?_⟩
    have hi : i = 0 ∨ i = 1 ∨ i = 2 := by simp at h; omega
    rcases hi with rfl | rfl | rfl
    · exact ⟨(cell_block hg).trans rfl, h1.below hb, k1⟩
    · exact ⟨(cell_block hg).trans rfl, .inl rfl, by simp⟩
    · exact ⟨(cell_block hg).trans rfl, h2.below hb, k2⟩
  have e : flat [(a, c, l1), (none, 0, []), (a2, c2, l2)] = l1 ++ l2 := by simp [flat]
  have := sum_calls (some ⟨g, 0, none⟩) 3 [(a, c, l1), (none, 0, []), (a2, c2, l2)] W hp (by simp)
  rwa [e] at this
theorem sum1 {w0 W : World} (g : Nat) (a : Option Addr) (c : Nat) (l : List UInt8) (h1 : Row8 w0 a l) (k1 : l.length ≤ 9223372036854775807) (hb : Below w0.heap.size w0 W)
    (hg : W.heap[g]? = some (.cells #[.slice a l.length c] 22 (0, 0))) :
    Calls Try.prog 11 #[.slice (some ⟨g, 0, none⟩) 1 1] W fun e w' => e = .returned (.int .u32 (u (more 0#32 l))) ∧ W = w' := by
  have e : flat [(a, c, l)] = l := by simp [flat]
  have := sum_calls (some ⟨g, 0, none⟩) 1 [(a, c, l)] W (Parts.one hg (h1.below hb) k1) (by simp)
  rwa [e] at this
theorem sum1n {w0 W : World} (g : Nat) (a : Option Addr) (n c : Nat) (l : List UInt8) (hn : n = l.length) (h1 : Row8 w0 a l) (k1 : l.length ≤ 9223372036854775807) (hb : Below w0.heap.size w0 W)
    (hg : W.heap[g]? = some (.cells #[.slice a n c] 22 (0, 0))) :
    Calls Try.prog 11 #[.slice (some ⟨g, 0, none⟩) 1 1] W fun e w' => e = .returned (.int .u32 (u (more 0#32 l))) ∧ W = w' := by
  subst hn
  exact sum1 g a c l h1 k1 hb hg
theorem sum2 {w0 W : World} (g : Nat) (a a2 : Option Addr) (c c2 : Nat) (l1 l2 : List UInt8) (h1 : Row8 w0 a l1) (h2 : Row8 w0 a2 l2) (k1 : l1.length ≤ 9223372036854775807) (k2 : l2.length ≤ 9223372036854775807) (hb : Below w0.heap.size w0 W)
    (hg : W.heap[g]? = some (.cells #[.slice a l1.length c, .slice a2 l2.length c2] 22 (0, 0))) :
    Calls Try.prog 11 #[.slice (some ⟨g, 0, none⟩) 2 2] W fun e w' => e = .returned (.int .u32 (u (more 0#32 (l1 ++ l2)))) ∧ W = w' := by
  have e : flat [(a, c, l1), (a2, c2, l2)] = l1 ++ l2 := by simp [flat]
  have := sum_calls (some ⟨g, 0, none⟩) 2 [(a, c, l1), (a2, c2, l2)] W (Parts.two hg (h1.below hb) (h2.below hb) k1 k2) (by simp)
  rwa [e] at this

theorem sum2n {w0 W : World} (g : Nat) (a a2 : Option Addr) (n1 n2 : Nat) (c c2 : Nat) (l1 l2 : List UInt8) (e1 : n1 = l1.length) (e2 : n2 = l2.length) (h1 : Row8 w0 a l1) (h2 : Row8 w0 a2 l2) (k1 : l1.length ≤ 9223372036854775807) (k2 : l2.length ≤ 9223372036854775807) (hb : Below w0.heap.size w0 W)
    (hg : W.heap[g]? = some (.cells #[.slice a n1 c, .slice a2 n2 c2] 22 (0, 0))) :
    Calls Try.prog 11 #[.slice (some ⟨g, 0, none⟩) 2 2] W fun e w' => e = .returned (.int .u32 (u (more 0#32 (l1 ++ l2)))) ∧ W = w' := by
  subst e1; subst e2
  exact sum2 g a a2 c c2 l1 l2 h1 h2 k1 k2 hb hg
end Go.Proofs.Ytocbogagfdbcmaa.Crc
