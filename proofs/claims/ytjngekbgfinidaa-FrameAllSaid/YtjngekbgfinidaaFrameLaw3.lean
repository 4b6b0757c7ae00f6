/- The walks of the laws on a frame that is read back, cut or turned. -/
import Derived.Test.YtjngekbgfinidaaFrameLaw2
namespace Go.Proofs.Ytjngekbgfinidaa.Fr
set_option linter.unusedVariables false
set_option linter.unusedSimpArgs false
open Go.RowKit
open Go.Proofs.Ytjngekbgfinidaa.Num Go.Proofs.Ytjngekbgfinidaa.Crc

set_option maxRecDepth 100000 in
theorem FrameBack_walk (a a2 : Option Addr) (c c2 : Nat) (l m : List UInt8) (w : World) (hr : Row8 w a l) (hn : a = none → c = 0) (hl : l.length ≤ 9223372036854775807) (hr2 : Row8 w a2 m) (hn2 : a2 = none → c2 = 0) (hm : m.length ≤ 9223372036854775807) :
    Calls Try.prog 7 #[.slice a l.length c, .slice a2 m.length c2] w fun e w' => e = .returned (.bool true) ∧ Below w.heap.size w w' := by
  have G := Lib.hid (And.intro hr (And.intro hn (And.intro hr2 hn2)))
  clear hr hn hr2 hn2
  go_enter Try.func7, Try.ntmps7
  go_wp2_with fail
  refine (long_calls _ _ _ _).mono ?_
  rintro e w' ⟨rfl, rfl⟩
  by_cases hl6 : 6000 < l.length
  · go_wp2_with fail
    refine (alive_calls _).mono ?_
    rintro e w' ⟨rfl, hb⟩
    go_wp2_with fail
    go_ret
    exact ⟨rfl, hb⟩
  · go_wp2_with fail
    refine (long_calls _ _ _ _).mono ?_
    rintro e w' ⟨rfl, rfl⟩
    by_cases hm6 : 6000 < m.length
    · go_wp2_with fail
      refine (alive_calls _).mono ?_
      rintro e w' ⟨rfl, hb⟩
      go_wp2_with fail
      go_ret
      exact ⟨rfl, hb⟩
    · by_cases h4 : 4096 < l.length
      · go_wp2_with fail
        refine (put_many none a 0 c [] l h4 hl _).mono ?_
        rintro e w1 ⟨rfl, hb⟩
        go_wp2_with fail
        refine (alive_calls _).mono ?_
        rintro e w2 ⟨rfl, hb2⟩
        go_wp2_with fail
        go_ret
        exact ⟨rfl, hb.trans (hb2.mono hb.size)⟩
      · go_wp2_with fail
        refine (put_frame none a 0 c [] l _ (.inl rfl) (fun _ => rfl) (by simp) G.out.1 G.out.2.1 (by omega)).mono ?_
        rintro e w1 ⟨⟨v, rfl, ho⟩, hb⟩
        rw [List.nil_append] at ho
        have H1 := Lib.hid (And.intro ho hb)
        clear ho hb
        go_wp2_with (at_builtin; refine wpList_append8 rfl (Operand.tmp 36) (Operand.tmp 37) 22 rfl w.heap.size 5 Try.underlying22 info8 v (frame l) m a2 c2 rfl H1.out.1 rfl (G.out.2.2.1.below H1.out.2) G.out.2.2.2 (by rw [length_frame]; omega) H1.out.2.size ?_; intro v2 w2 hown2 hg2; have H2 := Lib.hid (And.intro hown2 (grown_below H1.out.2 H1.out.2.size H1.out.1 (Nat.le_refl _) hg2)); clear hown2 hg2)
        refine (next_own H2.out.1 (by rw [List.length_append, length_frame]; omega)).mono ?_
        rintro e w3 ⟨v3, rfl, ho3, hb3⟩
        rw [nextF_frame l m (by omega)] at ho3 ⊢
        have H3 := Lib.hid (And.intro ho3 (H2.out.2.trans (hb3.mono H2.out.2.size)))
        clear ho3 hb3
        go_wp2_with fail
        refine (pubsize_calls (l.length : Int) (by omega) (by omega) _).mono ?_
        rintro e w4 ⟨rfl, hb4⟩
        rw [show sized (l.length : Int) = ((8 + l.length : Nat) : Int) from by unfold sized; rw [if_neg (by omega)]; omega]
        have H4 := Lib.hid (And.intro (H3.out.1.below hb4) (H3.out.2.trans (hb4.mono H3.out.2.size)))
        clear hb4
        go_wp2_with fail
        refine (same_own_row H4.out.1 a l.length c rfl (G.out.1.below H4.out.2) (Below.refl _ _)).mono ?_
        rintro e w5 ⟨rfl, rfl⟩
        rw [show decide (l = l) = true from by simp]
        go_wp2_with fail
        refine (alive_calls _).mono ?_
        rintro e w6 ⟨rfl, hb6⟩
        go_wp2_with fail
        go_ret
        exact ⟨rfl, H4.out.2.trans (hb6.mono H4.out.2.size)⟩

/-- A cut frame. -/
theorem nextF_cut (m : List UInt8) (hm : m.length ≤ 4096) (k : Nat) (hk : k < 8 + m.length) : nextF ((frame m).take k) = ([], 0, 4) := by
  obtain ⟨p, q, h2, hn⟩ := be2 m.length (by omega)
  have e : frame m = 0xA7 :: 0x5E :: p :: q :: (be 4 (sumOf m).toNat ++ m) := by
    unfold frame head; rw [h2]; simp
  have hlen := length_frame m
  match k, hk with
  | 0, _ => simp [nextF, sizeF]
  | 1, _ => rw [e]; simp [nextF, sizeF]
  | 2, _ => rw [e]; simp [nextF, sizeF]
  | 3, _ => rw [e]; simp [nextF, sizeF]
  | k + 4, hk =>
    have hl : ((frame m).take (k + 4)).length = k + 4 := by rw [List.length_take, hlen]; omega
    have e2 : (frame m).take (k + 4) = 0xA7 :: 0x5E :: p :: q :: (be 4 (sumOf m).toNat ++ m).take k := by rw [e]; rfl
    have hs : sizeF ((frame m).take (k + 4)) = (8 + num [p, q], 0) := by
      rw [e2]
      simp only [sizeF, ne_eq, not_true_eq_false, if_false, if_neg (show ¬ 4096 < num [p, q] from by omega)]
    unfold nextF
    rw [hs, hl, hn]
    simp only [ne_eq, not_true_eq_false, if_false, if_pos (show k + 4 < 8 + m.length from hk)]

/-- A turned frame. -/
theorem nextF_turned (m : List UInt8) (hm : m.length ≤ 4096) (k : Nat) (hk : k < (frame m).length) (x : UInt8) (hx : x ≠ 0) :
    (nextF ((frame m).set k ((frame m)[k] ^^^ x))).2.2 ≠ 0 ∨ (nextF ((frame m).set k ((frame m)[k] ^^^ x))).1.length ≠ m.length := by
  obtain ⟨b, hb⟩ : ∃ b, b = (frame m).set k ((frame m)[k] ^^^ x) := ⟨_, rfl⟩
  rw [← hb]
  have hbl : b.length = 8 + m.length := by rw [hb, List.length_set, length_frame]
  by_cases hE : (nextF b).2.2 = 0
  · right
    intro hL
    unfold nextF at hE hL
    split at hE
    · rename_i h; exact h hE
    · rename_i h1
      rw [if_neg h1] at hL
      split at hE
      · simp at hE
      · rename_i h2
        rw [if_neg h2] at hL
        split at hE
        · rename_i h3
          rw [if_pos h3] at hL
          simp only at hL
          have e1 : (b.drop 8).take ((sizeF b).1 - 8) = b.drop 8 := by
            refine List.take_of_length_le ?_
            have h4 : (b.drop 8).length = m.length := by rw [List.length_drop, hbl]; omega
            rw [List.length_take, h4] at hL
            omega
          rw [e1] at h3
          have hd : (b.drop 8).length = m.length := by rw [List.length_drop, hbl]; omega
          by_cases hk8 : k < 8
          · have d : b.drop 8 = m := by
              rw [hb, List.drop_set_of_lt hk8]
              unfold frame; rw [List.drop_append_of_le_length (by rw [length_head]; omega), List.drop_of_length_le (by rw [length_head]; omega), List.nil_append]
            have hbe : b = frame m := by
              rw [← List.take_append_drop 8 b, h3, d]; rfl
            have hne : b[k]'(by rw [hbl]; omega) = (frame m)[k] ^^^ x := by simp [hb]
            have hne2 : b[k]'(by rw [hbl]; omega) = (frame m)[k] := by simp [hbe]
            rw [hne2] at hne
            apply hx
            have := congrArg (fun z => (frame m)[k] ^^^ z) hne
            simpa [← UInt8.xor_assoc] using this.symm
          · have t : b.take 8 = head m := by
              rw [hb, List.take_set_of_le (by omega)]
              unfold frame; rw [List.take_append_of_le_length (by rw [length_head]; omega), List.take_of_length_le (by rw [length_head]; omega)]
            have hkm : k - 8 < m.length := by rw [length_frame] at hk; omega
            have d : b.drop 8 = m.set (k - 8) (m[k - 8] ^^^ x) := by
              have hf : (frame m)[k] = m[k - 8] := by
                rw [List.getElem_of_eq (show frame m = head m ++ m from rfl) hk, List.getElem_append_right (by rw [length_head]; omega)]
                simp [length_head]
              have hf2 : (frame m).drop 8 = m := by
                unfold frame; rw [List.drop_append_of_le_length (by rw [length_head]; omega), List.drop_of_length_le (by rw [length_head]; omega), List.nil_append]
              rw [hb, List.drop_set, if_neg (by omega), hf, hf2]
            rw [t, d] at h3
            have hl2 : (m.set (k - 8) (m[k - 8] ^^^ x)).length = m.length := List.length_set
            unfold head at h3
            rw [hl2] at h3
            have h5 := List.append_cancel_left h3
            have h6 : (sumOf m).toNat = (sumOf (m.set (k - 8) (m[k - 8] ^^^ x))).toNat := by
              have := congrArg num h5
              rwa [num_be, num_be, Nat.mod_eq_of_lt (sumOf m).isLt, Nat.mod_eq_of_lt (sumOf _).isLt] at this
            have h7 := BitVec.eq_of_toNat_eq h6
            unfold sumOf at h7
            rw [hl2] at h7
            have hidx : 2 + (k - 8) < (be 2 m.length ++ m).length := by rw [List.length_append, length_be]; omega
            have h8 := more_ne 0#32 (be 2 m.length ++ m) (2 + (k - 8)) hidx x hx
            apply h8
            rw [h7]
            congr 1
            have hg : (be 2 m.length ++ m)[2 + (k - 8)] = m[k - 8] := by
              rw [List.getElem_append_right (by rw [length_be]; omega)]
              simp [length_be]
            rw [hg, List.set_append_right _ _ (by rw [length_be]; omega), length_be]
            congr 2
            omega
        · simp at hE
  · exact .inl hE

end Go.Proofs.Ytjngekbgfinidaa.Fr
