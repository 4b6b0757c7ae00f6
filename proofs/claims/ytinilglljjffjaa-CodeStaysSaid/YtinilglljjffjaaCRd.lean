/- The walks of the reference's New, and of the law's read (what it answers is not looked at). -/
import Derived.Test.YtinilglljjffjaaCQ2
import Derived.Test.YtinilglljjffjaaCKeyEq
namespace Go.Proofs.Ytinilglljjffjaa.Cd
set_option linter.unusedVariables false
set_option linter.unusedSimpArgs false
open Go.RowKit
open Go.Proofs.Ytinilglljjffjaa.Num

set_option maxHeartbeats 1000000 in
set_option maxRecDepth 100000 in
theorem qnew_calls (A : Option Addr) (c : Nat) (l : List UInt8) (W : World) (hr : Row8 W A l) (hA : A = none → c = 0) (hlen : l.length ≤ 140737488355328) :
    Calls Try.prog 15 #[.slice A l.length c] W fun e W' => ∃ A' c', e = .returned (.agg #[.slice A' l.length c', .int .i64 0, .int .i64 0, .int .i64 0]) ∧ Row8 W' A' l ∧ l.length ≤ c' ∧ c' ≤ 9223372036854775807 ∧ (A' = none → c' = 0) ∧ (∀ x, A' = some x → W.heap.size ≤ x.block ∧ x.block < W'.heap.size) ∧ Below W.heap.size W W' := by
  have hz := heap_alloc_new W (.cells #[.slice none 0 0, .int .i64 0, .int .i64 0, .int .i64 0] 45)
  have hb := below_alloc1 W (.cells #[.slice none 0 0, .int .i64 0, .int .i64 0, .int .i64 0] 45)
  have hs : (W.alloc (.cells #[.slice none 0 0, .int .i64 0, .int .i64 0, .int .i64 0] 45)).heap.size = W.heap.size + 1 := by simp
  have G := Lib.hid (And.intro (hr.below hb) (And.intro hz (And.intro hb (And.intro hA hlen))))
  clear hr hz hb hA hlen
  go_enter Try.func15, Try.ntmps15
  obtain ⟨W1, hW1⟩ : ∃ W1, W1 = W.alloc (.cells #[.slice none 0 0, .int .i64 0, .int .i64 0, .int .i64 0] 45) := ⟨_, rfl⟩
  rw [← hW1] at G hs
  replace hW1 : W.alloc (.cells #[.slice none 0 0, .int .i64 0, .int .i64 0, .int .i64 0] 45) = W1 := hW1.symm
  go_wp2_with (at_builtin; refine wpList_append8 rfl (Operand.const (.slice none 0 0)) (Operand.tmp 3) 25 rfl W1.heap.size 5 Try.underlying25 info8 (.slice none 0 0) [] l A c rfl (Own8.nil _ _ _) rfl G.out.1 G.out.2.2.2.1 (by simpa using G.out.2.2.2.2) (Nat.le_refl _) ?_; intro v1 w1 hown hgrow; rw [List.nil_append] at hown; have hb1 := below_of_grown hgrow; have hx := (hb1.block _ (Array.getElem?_eq_some_iff.1 G.out.2.1).1).trans G.out.2.1; have f0 : w1.frozen? ⟨W.heap.size, 0, none⟩ = false := (by simp [World.frozen?, hx]); have f1 : w1.frozen? ⟨W.heap.size, 1, none⟩ = false := (by simp [World.frozen?, hx]); have f2 : w1.frozen? ⟨W.heap.size, 2, none⟩ = false := (by simp [World.frozen?, hx]); have f3 : w1.frozen? ⟨W.heap.size, 3, none⟩ = false := (by simp [World.frozen?, hx]); have c0 : w1.cell? ⟨W.heap.size, 0, none⟩ = some (.slice none 0 0) := (by simp [World.cell?, hx]); have c1 : w1.cell? ⟨W.heap.size, 1, none⟩ = some (.int .i64 0) := (by simp [World.cell?, hx]); have c2 : w1.cell? ⟨W.heap.size, 2, none⟩ = some (.int .i64 0) := (by simp [World.cell?, hx]); have c3 : w1.cell? ⟨W.heap.size, 3, none⟩ = some (.int .i64 0) := (by simp [World.cell?, hx]); obtain ⟨A1, cc1, hv1, hr1, hl1, hm1, hn1⟩ := hown.row; subst hv1; have hA1 := own_block hown; have H := Lib.hid (And.intro hr1 (And.intro hl1 (And.intro hm1 (And.intro hn1 (And.intro hA1 hb1))))); clear hown hgrow hb1 hx hr1 hl1 hm1 hn1 hA1)
  have hbt : But W.heap.size w1 ((((w1.setCell ⟨W.heap.size, 0, none⟩ (.slice A1 l.length cc1)).setCell ⟨W.heap.size, 1, none⟩ (.int .i64 0)).setCell ⟨W.heap.size, 2, none⟩ (.int .i64 0)).setCell ⟨W.heap.size, 3, none⟩ (.int .i64 0)) := (((But.set _ 0 _).trans (But.set _ 1 _)).trans (But.set _ 2 _)).trans (But.set _ 3 _)
  have hsz : w1.heap.size = ((((w1.setCell ⟨W.heap.size, 0, none⟩ (.slice A1 l.length cc1)).setCell ⟨W.heap.size, 1, none⟩ (.int .i64 0)).setCell ⟨W.heap.size, 2, none⟩ (.int .i64 0)).setCell ⟨W.heap.size, 3, none⟩ (.int .i64 0)).heap.size := by simp
  have hbe : Below W.heap.size W w1 := G.out.2.2.1.trans (H.out.2.2.2.2.2.mono (by omega))
  have hsw := hbe.size
  refine bodyPost_ret (v := .agg #[.slice A1 l.length cc1, .int .i64 0, .int .i64 0, .int .i64 0]) (by simp [results, Try.results15, go_sem, c0, c1, c2, c3]) rfl ⟨A1, cc1, rfl, ?_, H.out.2.1, H.out.2.2.1, H.out.2.2.2.1, ?_, ?_⟩
  · exact Row8.turn H.out.1 hbt (fun x hx => ⟨by have := (H.out.2.2.2.2.1 x hx).1; omega, by simp [Value.ownBlock]⟩)
  · intro x hx
    have h1 := H.out.2.2.2.2.1 x hx
    rw [← hsz]
    exact ⟨by omega, h1.2⟩
  · exact hbe.trans (hbt.below (Nat.le_refl _) hsw)
end Go.Proofs.Ytinilglljjffjaa.Cd
