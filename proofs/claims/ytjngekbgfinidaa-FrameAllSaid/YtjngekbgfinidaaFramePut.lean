/- The walk of a frame's writing. -/
import Derived.Test.YtjngekbgfinidaaFrameNext
namespace Go.Proofs.Ytjngekbgfinidaa.Fr
set_option linter.unusedVariables false
set_option linter.unusedSimpArgs false
open Go.RowKit
open Go.Proofs.Ytjngekbgfinidaa.Num Go.Proofs.Ytjngekbgfinidaa.Crc

/-- How many bytes a load's frame has. -/
def sized (n : Int) : Int := if n < 0 ∨ 4096 < n then 0 else 8 + n
theorem pubsize_calls (n : Int) (h0 : -9223372036854775808 ≤ n) (h1 : n ≤ 9223372036854775807) (w : World) :
    Calls Try.prog 17 #[.int .i64 n] w fun e w' => e = .returned (.int .i64 (sized n)) ∧ Below w.heap.size w w' := by
  go_enter Try.func17, Try.ntmps17
  by_cases h : n < 0
  · go_wp2_with fail
    all_goals (go_ret; exact ⟨by unfold sized; rw [if_pos (.inl h)]; rfl, Below.refl _ _⟩)
  · by_cases h2 : 4096 < n
    · go_wp2_with fail
      all_goals (go_ret; exact ⟨by unfold sized; rw [if_pos (.inr h2)]; rfl, Below.refl _ _⟩)
    · go_wp2_with fail
      all_goals (go_ret; exact ⟨by unfold sized; rw [if_neg (by omega)]; rfl, Below.refl _ _⟩)
theorem refpubsize_calls (n : Int) (h0 : -9223372036854775808 ≤ n) (h1 : n ≤ 9223372036854775807) (w : World) :
    Calls Try.prog 18 #[.int .i64 n] w fun e w' => e = .returned (.int .i64 (sized n)) ∧ Below w.heap.size w w' := by
  go_enter Try.func18, Try.ntmps18
  by_cases h : n < 0
  · go_wp2_with fail
    all_goals (go_ret; exact ⟨by unfold sized; rw [if_pos (.inl h)]; rfl, Below.refl _ _⟩)
  · by_cases h2 : 4096 < n
    · go_wp2_with fail
      all_goals (go_ret; exact ⟨by unfold sized; rw [if_pos (.inr h2)]; rfl, Below.refl _ _⟩)
    · go_wp2_with fail
      all_goals (go_ret; exact ⟨by unfold sized; rw [if_neg (by omega)]; rfl, Below.refl _ _⟩)

theorem run_make_cap8 (n : Nat) (h : n ≤ 281474976710656) (w : World) :
    (Instr.makeSlice 22 (.int .i64 0) (.int .i64 (n : Int))).run Try.prog w = .ok (.slice (some ⟨w.heap.size, 0, none⟩) 0 n) (w.alloc (.cells (madeCells #[.int .u8 0] n) 5)) := by
  obtain ⟨i, hi, hzz⟩ := Option.map_eq_some_iff.1 info8
  simp only [Prod.mk.injEq] at hzz
  obtain ⟨hz, hs, hb⟩ := hzz
  have hr := run_make (P := Try.prog) w 22 5 i (.int .u8 0) Try.underlying22 hi hz .i64 .i64 0 n (by omega) (by omega) (by rw [hb]; omega) (by omega)
  simp only [Int.toNat_natCast, hs, Nat.mul_one] at hr
  exact hr
theorem own_made (w : World) (base n : Nat) (hb : base ≤ w.heap.size) (hn : n ≤ maxLen) : Own8 (w.alloc (.cells (madeCells #[.int .u8 0] n) 5)) base 5 (.slice (some ⟨w.heap.size, 0, none⟩) 0 n) [] := by
  refine ⟨rfl, .inr ⟨w.heap.size, n, _, rfl, hb, heap_alloc_new _ _, Nat.zero_le _, hn, by rw [made_eq]; simp, by simp⟩⟩
theorem row_of_range {w : World} {g : Nat} {l : List UInt8} (h : w.rangeAt g 0 (l.map v8)) : Row8 w (some ⟨g, 0, none⟩) l := by
  refine .inr ⟨_, rfl, fun i hi => ?_⟩
  have e : (⟨g, 0, none⟩ : Addr).add i = ⟨g, 0 + i, none⟩ := by unfold Addr.add; split <;> simp_all
  rw [e, h i _ (show (l.map v8)[i]? = some (v8 l[i]) by simp [hi])]
  rfl

theorem there8 (w' : World) (cs : List Value) (h8 : cs.length = 8) : (w'.alloc (.cells #[.int .u8 0, .int .u8 0, .int .u8 0, .int .u8 0, .int .u8 0, .int .u8 0, .int .u8 0, .int .u8 0] 48)).there w'.heap.size 0 cs.length := by
  intro j hj
  rw [h8] at hj
  have h := heap_alloc_new w' (.cells #[.int .u8 0, .int .u8 0, .int .u8 0, .int .u8 0, .int .u8 0, .int .u8 0, .int .u8 0, .int .u8 0] 48)
  refine ⟨?_, by simp only [World.frozen?, h]; simp⟩
  simp only [World.cell?, h]
  simp
  omega
/-- The head, stored. -/
theorem stored8 {w w' w2 : World} (hb : Below w.heap.size w w') (h : List UInt8) (h8 : h.length = 8)
    (e : (w'.alloc (.cells #[.int .u8 0, .int .u8 0, .int .u8 0, .int .u8 0, .int .u8 0, .int .u8 0, .int .u8 0, .int .u8 0] 48)).setCells w'.heap.size 0 (h.map v8).toArray.toList = w2) :
    Below w.heap.size w w2 ∧ Row8 w2 (some ⟨w'.heap.size, 0, none⟩) h := by
  subst e
  refine ⟨below_setCells (hb.trans ((below_alloc1 w' _).mono hb.size)) hb.size _ _, row_of_range ?_⟩
  exact World.rangeAt_setCells_same _ _ 0 (h.map v8) (there8 w' (h.map v8) (by rw [List.length_map, h8]))
/-- Too long a load. -/
theorem put_many (a a2 : Option Addr) (c c2 : Nat) (l m : List UInt8) (hm : 4096 < m.length) (hm2 : m.length ≤ 9223372036854775807) (w : World) :
    Calls Try.prog 15 #[.slice a l.length c, .slice a2 m.length c2] w fun e w' => e = .returned (.tuple #[.slice none 0 0, .int .i64 5]) ∧ Below w.heap.size w w' := by
  go_enter Try.func15, Try.ntmps15
  go_wp2_with fail
  go_ret2
  exact ⟨rfl, Below.refl _ _⟩

set_option maxRecDepth 100000 in
theorem put_frame (a a2 : Option Addr) (c c2 : Nat) (l m : List UInt8) (w : World) (hr : Row8 w a l) (hn : a = none → c = 0) (hl : l.length ≤ 140737488300000) (hr2 : Row8 w a2 m) (hn2 : a2 = none → c2 = 0) (hm : m.length ≤ 4096) :
    Calls Try.prog 15 #[.slice a l.length c, .slice a2 m.length c2] w fun e w' => (∃ v, e = .returned (.tuple #[v, .int .i64 0]) ∧ Own8 w' w.heap.size 5 v (l ++ frame m)) ∧ Below w.heap.size w w' := by
  have hld := laid_calls a2 c2 m w hr2 (by omega)
  have t1 : ¬ (4096 : Int) < (m.length : Int) := by omega
  have hmk := fun (w : World) => run_make_cap8 (l.length + 8 + m.length) (by omega) w
  have e1 : ((l.length + 8 + m.length : Nat) : Int) = (l.length : Int) + 8 + (m.length : Int) := by omega
  rw [e1] at hmk
  have HL := Lib.hid (And.intro hld (And.intro hr (And.intro hn (And.intro hr2 (And.intro hn2 (And.intro hl hm))))))
  clear hld hr hn hr2 hn2 e1
  go_enter Try.func15, Try.ntmps15
  go_wp2_with fail
  refine HL.out.1.mono ?_
  rintro e w' ⟨rfl, hb⟩
  have h8 : ((head m).map v8).toArray.size = 8 := by simp [length_head]
  have hth := there8 w' ((head m).map v8) (by simp [length_head])
  have hi8 : (Try.prog.info? 48).map (·.size) = some 8 := by kernel_rfl
  have HT := Lib.hid (And.intro h8 (And.intro hth hi8))
  clear h8 hth hi8
  go_wp2_with (first
    | ((with_reducible show wpList _ _ _ _ _ _); refine wpList_store_mid rfl 48 (Operand.tmp 6) (Operand.tmp 12) rfl w'.heap.size 0 ((head m).map v8).toArray rfl rfl (by rw [List.size_toArray]; exact HT.out.2.1) (by rw [HT.out.1]; exact HT.out.2.2) (all_oneCell_toArray (one_cells _)) ?_; generalize hW : World.setCells _ _ _ _ = w2; have H2 := Lib.hid (stored8 hb (head m) (length_head m) hW); clear hW)
    | (at_builtin; refine wpList_append8 rfl (Operand.tmp 20) (Operand.tmp 21) 22 rfl w2.heap.size 5 Try.underlying22 info8 (.slice (some ⟨w2.heap.size, 0, none⟩) 0 (l.length + 8 + m.length)) [] l a c rfl (own_made w2 _ _ (Nat.le_refl _) (by unfold maxLen; omega)) rfl ((HL.out.2.1.below H2.out.1).below (below_alloc1 w2 _)) HL.out.2.2.1 (by simp; omega) (below_alloc1 w2 _).size ?_; intro v1 w3 hown1 hg1; have H3 := Lib.hid (And.intro hown1 (grown_below (below_alloc1 w2 _) (below_alloc1 w2 _).size (own_made w2 _ _ (Nat.le_refl _) (by unfold maxLen; omega)) (Nat.le_refl _) hg1)); clear hown1 hg1)
    | (at_builtin; refine wpList_append8 rfl (Operand.tmp 23) (Operand.tmp 24) 22 rfl w2.heap.size 5 Try.underlying22 info8 v1 ([] ++ l) (head m) (some ⟨w'.heap.size, 0, none⟩) 8 rfl H3.out.1 (by rw [length_head]; rfl) (H2.out.2.below H3.out.2) (fun h => by cases h) (by rw [length_head, List.nil_append]; omega) H3.out.2.size ?_; intro v2 w4 hown2 hg2; have H4 := Lib.hid (And.intro hown2 (grown_below H3.out.2 H3.out.2.size H3.out.1 (Nat.le_refl _) hg2)); clear hown2 hg2)
    | (at_builtin; refine wpList_append8 rfl (Operand.tmp 26) (Operand.tmp 27) 22 rfl w2.heap.size 5 Try.underlying22 info8 v2 ([] ++ l ++ head m) m a2 c2 rfl H4.out.1 rfl ((HL.out.2.2.2.1.below H2.out.1).below H4.out.2) HL.out.2.2.2.2.1 (by rw [List.length_append, length_head, List.nil_append]; omega) H4.out.2.size ?_; intro v3 w5 hown3 hg3; have H5 := Lib.hid (And.intro hown3 (grown_below H4.out.2 H4.out.2.size H4.out.1 (Nat.le_refl _) hg3)); clear hown3 hg3))
  go_ret2
  have hf := H5.out.1
  rw [List.nil_append, List.append_assoc] at hf
  exact ⟨⟨_, rfl, hf.mono H2.out.1.size⟩, H2.out.1.trans (H5.out.2.mono H2.out.1.size)⟩
end Go.Proofs.Ytjngekbgfinidaa.Fr
