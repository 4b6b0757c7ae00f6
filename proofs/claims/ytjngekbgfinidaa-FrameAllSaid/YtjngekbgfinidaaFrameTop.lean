/- The law package's own functions, and the first law's walk. -/
import Derived.Test.YtjngekbgfinidaaFrameRefNext
namespace Go.Proofs.Ytjngekbgfinidaa.Fr
set_option linter.unusedVariables false
set_option linter.unusedSimpArgs false
open Go.RowKit
open Go.Proofs.Ytjngekbgfinidaa.Num Go.Proofs.Ytjngekbgfinidaa.Crc

/-- A frame is read as what it was made of. -/
theorem be2 (n : Nat) (h : n < 65536) : ∃ p q, be 2 n = [p, q] ∧ num [p, q] = n := by
  refine ⟨bt n 1, bt n 0, rfl, ?_⟩
  have := num_be 2 n
  rw [Nat.mod_eq_of_lt (by omega)] at this
  exact this
theorem nextF_frame (m b : List UInt8) (hm : m.length ≤ 4096) : nextF (frame m ++ b) = (m, 8 + m.length, 0) := by
  obtain ⟨p, q, h2, hn⟩ := be2 m.length (by omega)
  have e : frame m ++ b = 0xA7 :: 0x5E :: p :: q :: (be 4 (sumOf m).toNat ++ (m ++ b)) := by
    unfold frame head; rw [h2]; simp
  rw [e]
  have t4 : (be 4 (sumOf m).toNat ++ (m ++ b)).take 4 = be 4 (sumOf m).toNat := by
    rw [List.take_append_of_le_length (by rw [length_be]; omega), List.take_of_length_le (by rw [length_be]; omega)]
  have d4 : ((be 4 (sumOf m).toNat ++ (m ++ b)).drop 4).take m.length = m := by
    rw [List.drop_append_of_le_length (by rw [length_be]; omega), List.drop_of_length_le (by rw [length_be]; omega), List.nil_append, List.take_append_of_le_length (Nat.le_refl _), List.take_length]
  have hS : (sumOf m).toNat = (more (more 0#32 [p, q]) m).toNat := by unfold sumOf; rw [h2, more_more]
  rw [nextF_rest p q _ (by omega) (by simp only [List.length_append, length_be]; omega) (sumOf m).toNat (sumOf m).toNat m.length hn.symm (by rw [t4, num_be, Nat.mod_eq_of_lt (sumOf m).isLt]) (by rw [d4, hS]), if_pos rfl, d4]

theorem next_own {w : World} {base : Nat} {v : Value} {l : List UInt8} (h : Own8 w base 5 v l) (hm : l.length ≤ 140737488355000) :
    Calls Try.prog 12 #[v] w fun e w' => ∃ v, e = .returned (.tuple #[v, .int .i64 ((nextF l).2.1 : Int), .int .i64 ((nextF l).2.2 : Int)]) ∧ Own8 w' w.heap.size 5 v (nextF l).1 ∧ Below w.heap.size w w' := by
  obtain ⟨A, c, rfl, hr, hc, hc2, _⟩ := h.row
  exact next_calls A c l w hr hc (by omega) hc2
theorem same_own {w0 : World} {base base' : Nat} {v v' : Value} {l l' : List UInt8} (h : Own8 w0 base 5 v l) (h' : Own8 w0 base' 5 v' l') {w : World} (hb : Below w0.heap.size w0 w) :
    Calls Try.prog 14 #[v, v'] w fun e w' => e = .returned (.bool (decide (l = l'))) ∧ w = w' := by
  obtain ⟨A, c, rfl, hr, _⟩ := (h.below hb).row
  obtain ⟨A', c', rfl, hr', _⟩ := (h'.below hb).row
  exact same_calls A c l A' c' l' w hr hr'
theorem same_own_row {w0 : World} {base : Nat} {v : Value} {l l' : List UInt8} (h : Own8 w0 base 5 v l) (A : Option Addr) (n c : Nat) (hn : n = l'.length) (h' : Row8 w0 A l') {w : World} (hb : Below w0.heap.size w0 w) :
    Calls Try.prog 14 #[v, .slice A n c] w fun e w' => e = .returned (.bool (decide (l = l'))) ∧ w = w' := by
  subst hn
  obtain ⟨A', c', rfl, hr, _⟩ := (h.below hb).row
  exact same_calls A' c' l A c l' w hr (h'.below hb)

theorem frame_nil : frame [] = [0xA7, 0x5E, 0, 0, 0xF1, 0x61, 0x77, 0xD2] := by decide +kernel
set_option maxRecDepth 100000 in
theorem alive_calls (w : World) :
    Calls Try.prog 11 #[] w fun e w' => e = .returned (.bool true) ∧ Below w.heap.size w w' := by
  go_enter Try.func11, Try.ntmps11
  go_wp2_with fail
  refine (put_frame none none 0 0 [] [] w (.inl rfl) (fun _ => rfl) (by simp) (.inl rfl) (fun _ => rfl) (by simp)).mono ?_
  rintro e w1 ⟨⟨v, rfl, ho⟩, hb⟩
  rw [List.nil_append] at ho
  have H1 := Lib.hid ho
  clear ho
  go_wp2_with fail
  refine (next_own H1.out (by rw [length_frame]; simp)).mono ?_
  rintro e w2 ⟨v2, rfl, ho2, hb2⟩
  have hx : nextF (frame []) = ([], 8, 0) := by have := nextF_frame [] [] (by simp); simpa using this
  rw [hx] at ho2 ⊢
  obtain ⟨A2, c2, rfl, hr2, _⟩ := ho2.row
  have hz := hb.size
  have H2 := Lib.hid (Own8.below H1.out hb2)
  have hr8 := fun (W : World) (hW : W = w2.alloc (.cells #[.int .u8 167, .int .u8 94, .int .u8 0, .int .u8 0, .int .u8 241, .int .u8 97, .int .u8 119, .int .u8 210] 5)) => (Row8.lit (l := [0xA7, 0x5E, 0, 0, 0xF1, 0x61, 0x77, 0xD2]) (show W.heap[w2.heap.size]? = some (.cells #[.int .u8 167, .int .u8 94, .int .u8 0, .int .u8 0, .int .u8 241, .int .u8 97, .int .u8 119, .int .u8 210] 5) by subst hW; exact heap_alloc_new _ _) rfl : Row8 W (some ⟨w2.heap.size, 0, none⟩) [0xA7, 0x5E, 0, 0, 0xF1, 0x61, 0x77, 0xD2])
  have H8 := Lib.hid hr8
  have HB := Lib.hid (hb.trans (hb2.mono hb.size))
  clear ho2 hr2 hx hr8 hb hb2
  go_wp2_with fail
  refine (same_own_row (H2.out.below (below_alloc1 _ _)) (some ⟨w2.heap.size, 0, none⟩) 8 8 rfl (H8.out _ rfl) (Below.refl _ _)).mono ?_
  rintro e w3 ⟨rfl, rfl⟩
  rw [show (decide (frame [] = [0xA7, 0x5E, 0, 0, 0xF1, 0x61, 0x77, 0xD2])) = true from decide_eq_true frame_nil]
  go_wp2_with fail
  go_ret
  exact ⟨rfl, HB.out.trans ((below_alloc1 w2 _).mono HB.out.size)⟩
theorem long_calls (a : Option Addr) (n c : Nat) (w : World) :
    Calls Try.prog 10 #[.slice a n c] w fun e w' => e = .returned (.bool (decide (6000 < n))) ∧ w = w' := by
  go_enter Try.func10, Try.ntmps10
  go_wp2_with fail
  go_ret
  exact ⟨by congr 2; simp; omega, rfl⟩
end Go.Proofs.Ytjngekbgfinidaa.Fr
