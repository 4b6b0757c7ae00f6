/- The walk of the reference's writing of a frame. -/
import Derived.Test.YtjngekbgfinidaaFramePut
namespace Go.Proofs.Ytjngekbgfinidaa.Fr
set_option linter.unusedVariables false
set_option linter.unusedSimpArgs false
open Go.RowKit
open Go.Proofs.Ytjngekbgfinidaa.Num Go.Proofs.Ytjngekbgfinidaa.Crc

theorem refput_nil (n k : Nat) (ki : Int) (hki : ki = (k : Int)) (hk : k ≤ 8) (w : World) :
    Calls Try.prog 28 #[.slice none 0 0, .int .u64 (n : Int), .int .i64 ki] w fun e w' => ∃ A cc, e = .returned (.slice A k cc) ∧ Row8 w' A (be k n) ∧ Below w.heap.size w w' ∧ (A = none → cc = 0) := by
  subst hki
  refine (refput_calls none 0 [] n k w (.inl rfl) (fun _ => rfl) (by simp) hk).mono ?_
  rintro e w' ⟨v, rfl, hown, hb⟩
  rw [List.nil_append] at hown
  obtain ⟨A, cc, rfl, hrow, _, _, hn⟩ := hown.row
  exact ⟨A, cc, by rw [length_be], hrow, hb, hn⟩
theorem refput_own {w : World} {base : Nat} {v : Value} {l : List UInt8} (ho : Own8 w base 5 v l) (n k : Nat) (ki : Int) (hki : ki = (k : Int)) (hk : k ≤ 8) (hl : l.length ≤ 140737488355000) :
    Calls Try.prog 28 #[v, .int .u64 (n : Int), .int .i64 ki] w fun e w' => ∃ v', e = .returned v' ∧ Own8 w' w.heap.size 5 v' (l ++ be k n) ∧ Below w.heap.size w w' := by
  subst hki
  obtain ⟨A, cc, rfl, hrow, _, _, hn⟩ := ho.row
  exact refput_calls A cc l n k w hrow hn hl hk
theorem refmore_n (s : BitVec 32) (v : Int) (hv : v = u s) (a : Option Addr) (n c : Nat) (l : List UInt8) (hn : l.length = n) (S : Nat) (hS : u (more s l) = (S : Int)) (w0 : World) {w : World} (hr : Row8 w0 a l) (hb : Below w0.heap.size w0 w) (hm : n ≤ 9223372036854775807) :
    Calls Try.prog 27 #[.int .u32 v, .slice a n c] w fun e w' => e = .returned (.int .u32 (S : Int)) ∧ w = w' := by
  subst hn
  rw [hv, ← hS]
  exact refmore_calls s a c l w (hr.below hb) hm
theorem u_num (s : BitVec 32) : ∃ S : Nat, u s = (S : Int) ∧ S = s.toNat ∧ S ≤ 4294967295 := ⟨s.toNat, rfl, rfl, by have := s.isLt; omega⟩

theorem refput_many (a a2 : Option Addr) (c c2 : Nat) (l m : List UInt8) (hm : 4096 < m.length) (hm2 : m.length ≤ 9223372036854775807) (w : World) :
    Calls Try.prog 16 #[.slice a l.length c, .slice a2 m.length c2] w fun e w' => e = .returned (.tuple #[.slice none 0 0, .int .i64 5]) ∧ Below w.heap.size w w' := by
  go_enter Try.func16, Try.ntmps16
  go_wp2_with fail
  go_ret2
  exact ⟨rfl, Below.refl _ _⟩

theorem frame_parts (l m : List UInt8) (S2 : Nat) (h : S2 = (more (more 0#32 (be 2 m.length)) m).toNat) : l ++ [0xA7, 0x5E] ++ be 2 m.length ++ be 4 S2 ++ m = l ++ frame m := by
  unfold frame head sumOf
  rw [more_more] at h
  rw [h]
  simp [List.append_assoc]

set_option maxRecDepth 100000 in
theorem refput_frame (a a2 : Option Addr) (c c2 : Nat) (l m : List UInt8) (w : World) (hr : Row8 w a l) (hn : a = none → c = 0) (hl : l.length ≤ 140737488300000) (hr2 : Row8 w a2 m) (hn2 : a2 = none → c2 = 0) (hm : m.length ≤ 4096) :
    Calls Try.prog 16 #[.slice a l.length c, .slice a2 m.length c2] w fun e w' => (∃ v, e = .returned (.tuple #[v, .int .i64 0]) ∧ Own8 w' w.heap.size 5 v (l ++ frame m)) ∧ Below w.heap.size w w' := by
  have t1 : ¬ (4096 : Int) < (m.length : Int) := by omega
  obtain ⟨S1, hS1, hS1', hS1b⟩ := u_num (more 0#32 (be 2 m.length))
  obtain ⟨S2, hS2, hS2', hS2b⟩ := u_num (more (more 0#32 (be 2 m.length)) m)
  have HL := Lib.hid (And.intro hr (And.intro hn (And.intro hr2 (And.intro hn2 (And.intro hl hm)))))
  have HS := Lib.hid (And.intro hS1 (And.intro hS1b (And.intro hS2 hS2')))
  clear hr hn hr2 hn2 hS1 hS1' hS1b hS2 hS2'
  go_enter Try.func16, Try.ntmps16
  go_wp2_with fail
  refine (refput_nil m.length 2 2 rfl (by omega) _).mono ?_
  rintro e w1 ⟨A0, c0, rfl, hrow0, hb1, hn0⟩
  have H1 := Lib.hid (And.intro hrow0 (And.intro hb1 hn0))
  clear hrow0 hb1 hn0
  go_wp2_with (first
    | (at_builtin; refine wpList_append8 rfl _ (Operand.tmp 15) 22 rfl w1.heap.size 5 Try.underlying22 info8 (.slice none 0 0) [] l a c rfl (Own8.nil _ _ _) rfl (HL.out.1.below H1.out.2.1) HL.out.2.1 (by simp; omega) (Nat.le_refl _) ?_; intro v1 w2 hown1 hg1; have H2 := Lib.hid (And.intro hown1 (below_of_grown hg1)); clear hown1 hg1)
    | (at_builtin; refine wpList_append8 rfl (Operand.tmp 16) (Operand.tmp 17) 22 rfl w1.heap.size 5 Try.underlying22 info8 v1 ([] ++ l) [0xA7, 0x5E] (some ⟨w2.heap.size, 0, none⟩) 2 rfl (Own8.below H2.out.1 (below_alloc1 _ _)) rfl (Row8.lit (heap_alloc_new _ _) rfl) (fun h => by cases h) (by simp; omega) (by have := H2.out.2.size; simp; omega) ?_; intro v2 w3 hown2 hg2; have H3 := Lib.hid (And.intro hown2 (grown_below (H2.out.2.trans ((below_alloc1 w2 _).mono H2.out.2.size)) (by have := H2.out.2.size; simp; omega) (Own8.below H2.out.1 (below_alloc1 _ _)) (Nat.le_refl _) hg2)); clear hown2 hg2)
    | (at_builtin; refine wpList_append8 rfl (Operand.tmp 19) (Operand.tmp 20) 22 rfl w1.heap.size 5 Try.underlying22 info8 v2 ([] ++ l ++ [0xA7, 0x5E]) (be 2 m.length) A0 c0 rfl H3.out.1 (by rw [length_be]; rfl) (H1.out.1.below H3.out.2) H1.out.2.2 (by simp [length_be]; omega) H3.out.2.size ?_; intro v3 w4 hown3 hg3; have H4 := Lib.hid (And.intro hown3 (grown_below H3.out.2 H3.out.2.size H3.out.1 (Nat.le_refl _) hg3)); clear hown3 hg3))
  refine (refmore_n 0#32 0 rfl A0 2 c0 (be 2 m.length) (length_be _ _) S1 HS.out.1 w1 H1.out.1 H4.out.2 (by omega)).mono ?_
  rintro e w' ⟨rfl, rfl⟩
  go_wp2_with fail
  refine (refmore_n _ (S1 : Int) HS.out.1.symm a2 m.length c2 m rfl S2 HS.out.2.2.1 w1 (HL.out.2.2.1.below H1.out.2.1) H4.out.2 (by omega)).mono ?_
  rintro e w' ⟨rfl, rfl⟩
  go_wp2_with fail
  refine (refput_own H4.out.1 S2 4 4 rfl (by omega) (by simp [length_be]; omega)).mono ?_
  rintro e w5 ⟨v4, rfl, hown4, hb4⟩
  have H5 := Lib.hid (And.intro hown4 (H4.out.2.trans (hb4.mono H4.out.2.size)))
  have hz := H4.out.2.size
  clear hown4 hb4
  go_wp2_with (at_builtin; refine wpList_append8 rfl (Operand.tmp 29) (Operand.tmp 30) 22 rfl w1.heap.size 5 Try.underlying22 info8 v4 ([] ++ l ++ [0xA7, 0x5E] ++ be 2 m.length ++ be 4 S2) m a2 c2 rfl (H5.out.1.mono hz) rfl ((HL.out.2.2.1.below H1.out.2.1).below H5.out.2) HL.out.2.2.2.1 (by simp [length_be]; omega) H5.out.2.size ?_; intro v5 w6 hown6 hg6; have H6 := Lib.hid (And.intro hown6 (grown_below H5.out.2 H5.out.2.size (H5.out.1.mono hz) (Nat.le_refl _) hg6)); clear hown6 hg6)
  go_ret2
  have hf := H6.out.1
  rw [List.nil_append, frame_parts l m S2 HS.out.2.2.2] at hf
  exact ⟨⟨_, rfl, hf.mono H1.out.2.1.size⟩, H1.out.2.1.trans (H6.out.2.mono H1.out.2.1.size)⟩
end Go.Proofs.Ytjngekbgfinidaa.Fr
