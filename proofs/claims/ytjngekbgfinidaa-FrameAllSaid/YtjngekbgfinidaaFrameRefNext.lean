/- The walk of the reference's next frame. -/
import Derived.Test.YtjngekbgfinidaaFrameRefPut
import Derived.BigQuiet
namespace Go.Proofs.Ytjngekbgfinidaa.Fr
set_option linter.unusedVariables false
set_option linter.unusedSimpArgs false
open Go.RowKit
open Go.Proofs.Ytjngekbgfinidaa.Num Go.Proofs.Ytjngekbgfinidaa.Crc

theorem sl_mid_some {P : Program} {t : TypeId} (ht : P.underlying t = some (.slice (P.elem t))) (hs : ∀ w, (sizeOf (P.elem t)).run P w = .ok 1 w) (x : Addr) (n c lo hi : Nat) (il ih : Int) (hil : il = (lo : Int)) (hih : ih = (hi : Int)) (h1 : lo ≤ hi) (h2 : hi ≤ c) :
    ∃ x2, (∀ w, (Instr.slice t (.slice (some x) n c) (some (.int .i64 il)) (some (.int .i64 ih)) none).run P w = .ok (.slice (some x2) (hi - lo) (c - lo)) w) ∧ ∀ w l, l.length = n → hi ≤ n → Row8 w (some x) l → Row8 w (some x2) ((l.drop lo).take (hi - lo)) := by
  subst hil; subst hih
  refine ⟨if c = lo then x else x.add (lo * 1), fun w => ?_, fun w l hl hn hr => ?_⟩
  · rw [run_slice_lh w t (some x) n c ht .i64 .i64 lo hi (by omega) (by omega) (by omega), hs]
    by_cases e : c = lo
    · rw [if_pos e]; simp [Result.andThen, sliced, e]
    · rw [if_neg e]; simp [Result.andThen, sliced, e]
  · rcases hr with rfl | ⟨x', hx, h⟩
    · exact .inl (by simp)
    · obtain rfl := Option.some.inj hx
      by_cases e : c = lo
      · refine .inl ?_
        have : hi - lo = 0 := by omega
        rw [this]; simp
      · rw [if_neg e, Nat.mul_one]
        exact (Row8.drop h lo).take _
theorem num_inj : ∀ (n : Nat) (l l' : List UInt8), l.length = n → l'.length = n → num l = num l' → l = l' := by
  intro n
  induction n with
  | zero => intro l l' h h' _; rw [List.eq_nil_of_length_eq_zero h, List.eq_nil_of_length_eq_zero h']
  | succ n ih =>
    intro l l' h h' e
    have hl : l ≠ [] := by intro h0; subst h0; simp at h
    have hl' : l' ≠ [] := by intro h0; subst h0; simp at h'
    rw [← List.dropLast_concat_getLast hl, ← List.dropLast_concat_getLast hl', num_snoc, num_snoc] at e
    have h1 := (l.getLast hl).toNat_lt
    have h2 := (l'.getLast hl').toNat_lt
    have e1 : num l.dropLast = num l'.dropLast := by omega
    have e2 : (l.getLast hl).toNat = (l'.getLast hl').toNat := by omega
    rw [← List.dropLast_concat_getLast hl, ← List.dropLast_concat_getLast hl', ih _ _ (by simp [h]) (by simp [h']) e1, UInt8.toNat_inj.1 e2]
theorem num_lt_pow' (l : List UInt8) : num l < 2 ^ (8 * l.length) := by
  have h := num_lt l
  rwa [show (256 : Nat) ^ l.length = 2 ^ (8 * l.length) from by rw [Nat.pow_mul]] at h
theorem be_num (l : List UInt8) : be l.length (num l) = l := by
  refine num_inj l.length _ _ (length_be _ _) rfl ?_
  rw [num_be, Nat.mod_eq_of_lt (num_lt_pow' l)]
/-- The next frame behind a mark and a length. -/
theorem nextF_rest (p q : UInt8) (t : List UInt8) (h4 : num [p, q] ≤ 4096) (hl : 8 + num [p, q] ≤ t.length + 4) (N S k : Nat) (hk : k = num [p, q]) (hN : N = num (t.take 4)) (hS : S = (more (more 0#32 [p, q]) ((t.drop 4).take k)).toNat) :
    nextF (0xA7 :: 0x5E :: p :: q :: t) = if N = S then ((t.drop 4).take k, 8 + k, 0) else ([], 0, 8) := by
  have hs : sizeF (0xA7 :: 0x5E :: p :: q :: t) = (8 + num [p, q], 0) := by
    simp only [sizeF, ne_eq, not_true_eq_false, if_false, if_neg (show ¬ 4096 < num [p, q] from by omega)]
  have hlen : ¬ (0xA7 :: 0x5E :: p :: q :: t : List UInt8).length < 8 + num [p, q] := by simp only [List.length_cons]; omega
  unfold nextF
  rw [hs, ← hk] 
  rw [← hk] at hlen hl
  simp only [ne_eq, not_true_eq_false, if_false, if_neg hlen]
  rw [show 8 + k - 8 = k from by omega, show List.drop 8 (0xA7 :: 0x5E :: p :: q :: t) = t.drop 4 from rfl]
  have hkl : ((t.drop 4).take k).length = k := by simp; omega
  have hb2 : be 2 k = [p, q] := by rw [hk]; exact be_num [p, q]
  have e1 : List.take 8 (0xA7 :: 0x5E :: p :: q :: t) = [0xA7, 0x5E] ++ [p, q] ++ t.take 4 := by simp
  have e2 : head ((t.drop 4).take k) = [0xA7, 0x5E] ++ [p, q] ++ be 4 S := by
    unfold head sumOf; rw [hkl, hb2, hS, more_more]
  have hS32 : S < 2 ^ (8 * 4) := by rw [hS]; exact BitVec.isLt _
  have ht4 : (t.take 4).length = 4 := by simp; omega
  have e3 : (t.take 4 = be 4 S) ↔ N = S := by
    constructor
    · intro h; rw [hN, h, num_be, Nat.mod_eq_of_lt hS32]
    · intro h; rw [← h, hN]; have := be_num (t.take 4); rw [ht4] at this; exact this.symm
  rw [e1, e2]
  by_cases h : N = S
  · rw [if_pos h, if_pos (by rw [e3.2 h])]
  · rw [if_neg h, if_neg (by intro h'; exact h (e3.1 (List.append_cancel_left h')))]

set_option maxRecDepth 100000 in
theorem ref_end0 (a : Option Addr) (c : Nat) (w : World) :
    Calls Try.prog 13 #[.slice a 0 c] w fun e w' => e = .returned (.tuple #[.slice none 0 0, .int .i64 0, .int .i64 4]) ∧ Below w.heap.size w w' := by
  go_enter Try.func13, Try.ntmps13
  go_wp2_with fail
  refine wp_loop_rounds 1 ?_
  rw [rounds_succ]
  go_wp2_with fail
  go_ret3
  exact ⟨rfl, (by repeat (first | exact Below.refl _ _ | assumption | apply Below.drew | apply below_drewN | (refine Below.alloc ?_ (by first | (simp; done) | omega | (simp; omega)) _)))⟩
set_option maxRecDepth 100000 in
theorem ref_form0 (x : Addr) (n c : Nat) (y : UInt8) (w : World) (h0 : w.cell? x = some (.int .u8 (y.toNat : Int))) (hn : 0 < n) (hy : y ≠ 0xA7) :
    Calls Try.prog 13 #[.slice (some x) n c] w fun e w' => e = .returned (.tuple #[.slice none 0 0, .int .i64 0, .int .i64 3]) ∧ Below w.heap.size w w' := by
  have hb : ((n : Int) == 0) = false := by rw [beq_eq_false_iff_ne]; omega
  have hy2 : ((y.toNat : Int) != 167) = true := ne_of (k := 167) (by omega) hy
  have h1 := fun o => ((below_alloc1 w o).cell (World.block_lt_of_cell? w _ h0)).trans h0
  clear hy
  go_enter Try.func13, Try.ntmps13
  go_wp2_with fail
  refine wp_loop_rounds 1 ?_
  rw [rounds_succ]
  go_wp2_with fail
  go_quiet (fail)
  go_wp2_with fail
  go_ret3
  exact ⟨rfl, (by repeat (first | exact Below.refl _ _ | assumption | apply Below.drew | apply below_drewN | (refine Below.alloc ?_ (by first | (simp; done) | omega | (simp; omega)) _)))⟩
set_option maxRecDepth 100000 in
theorem ref_end1 (x : Addr) (c : Nat) (w : World) (h0 : w.cell? x = some (.int .u8 167)) :
    Calls Try.prog 13 #[.slice (some x) 1 c] w fun e w' => e = .returned (.tuple #[.slice none 0 0, .int .i64 0, .int .i64 4]) ∧ Below w.heap.size w w' := by
  have h1 := fun o => ((below_alloc1 w o).cell (World.block_lt_of_cell? w _ h0)).trans h0
  go_enter Try.func13, Try.ntmps13
  go_wp2_with fail
  refine wp_loop_rounds 2 ?_
  rw [rounds_succ]
  go_wp2_with fail
  go_quiet (fail)
  go_wp2_with fail
  rw [rounds_succ]
  go_wp2_with fail
  go_ret3
  exact ⟨rfl, (by repeat (first | exact Below.refl _ _ | assumption | apply Below.drew | apply below_drewN | (refine Below.alloc ?_ (by first | (simp; done) | omega | (simp; omega)) _)))⟩
set_option maxRecDepth 100000 in
theorem ref_form1 (x : Addr) (n c : Nat) (z : UInt8) (w : World) (h0 : w.cell? x = some (.int .u8 167)) (hz : w.cell? ⟨x.block, x.off + 1, none⟩ = some (.int .u8 (z.toNat : Int))) (hn : 1 < n) (hy : z ≠ 0x5E) :
    Calls Try.prog 13 #[.slice (some x) n c] w fun e w' => e = .returned (.tuple #[.slice none 0 0, .int .i64 0, .int .i64 3]) ∧ Below w.heap.size w w' := by
  have hn0 : 0 < n := by omega
  have hb : ((n : Int) == 0) = false := by rw [beq_eq_false_iff_ne]; omega
  have hb1 : ((n : Int) == 1) = false := by rw [beq_eq_false_iff_ne]; omega
  have hy2 : ((z.toNat : Int) != 94) = true := ne_of (k := 94) (by omega) hy
  have h1 := fun o => ((below_alloc1 w o).cell (World.block_lt_of_cell? w _ h0)).trans h0
  have h2 := fun o => ((below_alloc1 w o).cell (World.block_lt_of_cell? w _ hz)).trans hz
  clear hy
  go_enter Try.func13, Try.ntmps13
  go_wp2_with fail
  refine wp_loop_rounds 2 ?_
  rw [rounds_succ]
  go_wp2_with fail
  go_quiet (fail)
  go_wp2_with fail
  rw [rounds_succ]
  go_wp2_with fail
  go_quiet (fail)
  go_wp2_with fail
  go_ret3
  exact ⟨rfl, (by repeat (first | exact Below.refl _ _ | assumption | apply Below.drew | apply below_drewN | (refine Below.alloc ?_ (by first | (simp; done) | omega | (simp; omega)) _)))⟩
set_option maxRecDepth 100000 in
theorem ref_end2 (x : Addr) (n c : Nat) (w : World) (h0 : w.cell? x = some (.int .u8 167)) (hz : w.cell? ⟨x.block, x.off + 1, none⟩ = some (.int .u8 94)) (hn : 1 < n) (hn4 : n < 4) :
    Calls Try.prog 13 #[.slice (some x) n c] w fun e w' => e = .returned (.tuple #[.slice none 0 0, .int .i64 0, .int .i64 4]) ∧ Below w.heap.size w w' := by
  have hn0 : 0 < n := by omega
  have hb : ((n : Int) == 0) = false := by rw [beq_eq_false_iff_ne]; omega
  have hb1 : ((n : Int) == 1) = false := by rw [beq_eq_false_iff_ne]; omega
  have h1 := fun o => ((below_alloc1 w o).cell (World.block_lt_of_cell? w _ h0)).trans h0
  have h2 := fun o => ((below_alloc1 w o).cell (World.block_lt_of_cell? w _ hz)).trans hz
  go_enter Try.func13, Try.ntmps13
  go_wp2_with fail
  refine wp_loop_rounds 3 ?_
  rw [rounds_succ]
  go_wp2_with fail
  go_quiet (fail)
  go_wp2_with fail
  rw [rounds_succ]
  go_wp2_with fail
  go_quiet (fail)
  go_wp2_with fail
  rw [rounds_succ]
  go_wp2_with fail
  go_ret3
  exact ⟨rfl, (by repeat (first | exact Below.refl _ _ | assumption | apply Below.drew | apply below_drewN | (refine Below.alloc ?_ (by first | (simp; done) | omega | (simp; omega)) _)))⟩
set_option maxHeartbeats 400000 in
set_option maxRecDepth 100000 in
theorem ref_rest (x : Addr) (c : Nat) (p q : UInt8) (t : List UInt8) (w : World) (h0 : w.cell? x = some (.int .u8 167)) (hz : w.cell? ⟨x.block, x.off + 1, none⟩ = some (.int .u8 94)) (hp : w.cell? ⟨x.block, x.off + 2, none⟩ = some (.int .u8 (p.toNat : Int))) (hq : w.cell? ⟨x.block, x.off + 3, none⟩ = some (.int .u8 (q.toNat : Int))) (hr : Row8 w (some x) (0xA7 :: 0x5E :: p :: q :: t)) (hc : t.length + 4 ≤ c) (hm : t.length ≤ 140737488300000) :
    Calls Try.prog 13 #[.slice (some x) (t.length + 4) c] w fun e w' => (∃ v, e = .returned (.tuple #[v, .int .i64 ((nextF (0xA7 :: 0x5E :: p :: q :: t)).2.1 : Int), .int .i64 ((nextF (0xA7 :: 0x5E :: p :: q :: t)).2.2 : Int)]) ∧ Own8 w' w.heap.size 5 v (nextF (0xA7 :: 0x5E :: p :: q :: t)).1) ∧ Below w.heap.size w w' := by
  have hb : (((t.length : Int) + 4) == 0) = false := by rw [beq_eq_false_iff_ne]; omega
  have hb1 : (((t.length : Int) + 4) == 1) = false := by rw [beq_eq_false_iff_ne]; omega
  have h1 := fun o => ((below_alloc1 w o).cell (World.block_lt_of_cell? w _ h0)).trans h0
  have h2 := fun o => ((below_alloc1 w o).cell (World.block_lt_of_cell? w _ hz)).trans hz
  have h3 := fun o => ((below_alloc1 w o).cell (World.block_lt_of_cell? w _ hp)).trans hp
  have h4 := fun o => ((below_alloc1 w o).cell (World.block_lt_of_cell? w _ hq)).trans hq
  have hn4 : 4 ≤ t.length + 4 := by omega
  have hp8 := p.toNat_lt
  have hq8 := q.toNat_lt
  go_enter Try.func13, Try.ntmps13
  go_wp2_with fail
  refine wp_loop_rounds 3 ?_
  rw [rounds_succ]
  go_wp2_with fail
  go_quiet (fail)
  go_wp2_with fail
  rw [rounds_succ]
  go_wp2_with fail
  go_quiet (fail)
  go_wp2_with fail
  rw [rounds_succ]
  go_wp2_with fail
  go_quiet (fail)
  obtain ⟨k, hk⟩ : ∃ k, k = num [p, q] := ⟨_, rfl⟩
  have hk2 : (p.toNat : Int) * 256 + (q.toNat : Int) = (k : Int) := by rw [hk]; simp [num]
  rw [hk2]
  generalize hW : World.drewN (World.drewN _ _) _ = W0
  have hbW : Below w.heap.size w W0 := by subst hW; exact (by repeat (first | exact Below.refl _ _ | assumption | apply Below.drew | apply below_drewN | (refine Below.alloc ?_ (by first | (simp; done) | omega | (simp; omega)) _)))
  have HR := Lib.hid (And.intro (hr.below hbW) (And.intro hk (And.intro hc hm)))
  clear hW hr hk hk2 hp8 hq8 h0 hz hp hq h1 h2 h3 h4 hb hb1
  by_cases hk4 : 4096 < k
  · go_wp2_with fail
    go_ret3
    have e : nextF (0xA7 :: 0x5E :: p :: q :: t) = ([], 0, 3) := by
      have := HR.out.2.1
      simp only [nextF, sizeF, ne_eq, not_true_eq_false, if_false, if_pos (show 4096 < num [p, q] from by omega)]
      simp
    rw [e]
    exact ⟨⟨_, rfl, Own8.nil _ _ _⟩, hbW⟩
  · by_cases hl : t.length + 4 < 8 + k
    · go_wp2_with fail
      go_ret3
      have e : nextF (0xA7 :: 0x5E :: p :: q :: t) = ([], 0, 4) := by
        have := HR.out.2.1
        simp only [nextF, sizeF, ne_eq, not_true_eq_false, if_false, if_neg (show ¬ 4096 < num [p, q] from by omega)]
        rw [if_pos (by simp only [List.length_cons]; omega)]
      rw [e]
      exact ⟨⟨_, rfl, Own8.nil _ _ _⟩, hbW⟩
    · obtain ⟨ad, S2, R2⟩ := sl_mid_some (P := Try.prog) (t := 22) Try.underlying22 size8 x (t.length + 4) c 8 (8 + k) 8 (8 + (k : Int)) rfl (by omega) (by omega) (by omega)
      have hld := R2 W0 (0xA7 :: 0x5E :: p :: q :: t) rfl (by omega) HR.out.1
      rw [show 8 + k - 8 = k from by omega, show List.drop 8 (0xA7 :: 0x5E :: p :: q :: t) = t.drop 4 from rfl] at hld
      rw [show 8 + k - 8 = k from by omega] at S2
      have hr4 : Row8 W0 (some ⟨x.block, x.off + 4, none⟩) t := by
        rcases HR.out.1 with h | ⟨y, hy, h⟩
        · simp at h
        · obtain rfl := Option.some.inj hy
          exact Row8.drop h 4
      have hr2 : Row8 W0 (some ⟨x.block, x.off + 2, none⟩) [p, q] := by
        rcases HR.out.1 with h | ⟨y, hy, h⟩
        · simp at h
        · obtain rfl := Option.some.inj hy
          exact (Row8.drop h 2).take 2
      obtain ⟨N4, hN4⟩ : ∃ N, N = num (t.take 4) := ⟨_, rfl⟩
      have hN4b : N4 ≤ 4294967295 := by have := num_lt_pow (t.take 4) 4 (by simp; omega) (by omega); omega
      have hget := refget_calls (some ⟨x.block, x.off + 4, none⟩) (c - 4) t 4 W0 hr4 (by omega) (by omega) (by omega)
      rw [← hN4] at hget
      have hkl : ((t.drop 4).take k).length = k := by simp; omega
      obtain ⟨S1, hS1, hS1', hS1b⟩ := u_num (more 0#32 [p, q])
      obtain ⟨S2', hS2, hS2', hS2b⟩ := u_num (more (more 0#32 [p, q]) ((t.drop 4).take k))
      have e4 := mod_u32_nat N4 (by omega)
      have HW := Lib.hid hbW
      have HR2 := Lib.hid HR.out
      have HN := Lib.hid (And.intro hget (And.intro hN4 (And.intro hld (And.intro hr2 (And.intro hkl (And.intro hS1 (And.intro hS2 hS2')))))))
      clear hget hN4 hld R2 hr4 hr2 hkl hS1 hS1' hS1b hS2 hS2' HR hbW hm hN4b
      have hc4 : 4 ≤ c := by omega
      have hc2 : ¬ c = 2 := by omega
      have hc5 : ¬ c = 4 := by omega
      clear hc
      go_wp2_with fail
      refine HN.out.1.mono ?_
      rintro e w' ⟨rfl, rfl⟩
      go_wp2_with fail
      refine (refmore_n 0#32 0 rfl (some ⟨x.block, x.off + 2, none⟩) 2 (c - 2) [p, q] rfl S1 HN.out.2.2.2.2.2.1 W0 HN.out.2.2.2.1 (Below.refl _ _) (by omega)).mono ?_
      rintro e w' ⟨rfl, rfl⟩
      go_wp2_with fail
      refine (refmore_n _ (S1 : Int) HN.out.2.2.2.2.2.1.symm (some ad) k (c - 8) ((t.drop 4).take k) HN.out.2.2.2.2.1 S2' HN.out.2.2.2.2.2.2.1 W0 HN.out.2.2.1 (Below.refl _ _) (by omega)).mono ?_
      rintro e w' ⟨rfl, rfl⟩
      have HX := Lib.hid (nextF_rest p q t (by have := HR2.out.2.1; omega) (by have := HR2.out.2.1; omega) N4 S2' k HR2.out.2.1 HN.out.2.1 HN.out.2.2.2.2.2.2.2)
      clear S2 hS2b hl
      by_cases hE : N4 = S2'
      · have hb : ((N4 : Int) != (S2' : Int)) = false := by rw [hE]; simp
        have HE := Lib.hid hE
        clear hE
        go_wp2_with (at_builtin; refine wpList_append8 rfl _ (Operand.tmp 71) 22 rfl W0.heap.size 5 Try.underlying22 info8 (.slice none 0 0) [] ((t.drop 4).take k) (some ad) (c - 8) rfl (Own8.nil _ _ _) (by rw [HN.out.2.2.2.2.1]; rfl) HN.out.2.2.1 (fun h => by cases h) (by rw [HN.out.2.2.2.2.1]; simp; omega) (Nat.le_refl _) ?_; intro v1 w2 hown1 hg1)
        go_ret3
        rw [HX.out, if_pos HE.out]
        exact ⟨⟨_, rfl, hown1.mono HW.out.size⟩, HW.out.trans ((below_of_grown hg1).mono HW.out.size)⟩
      · have hb : ((N4 : Int) != (S2' : Int)) = true := by rw [bne_iff_ne]; omega
        have HE := Lib.hid hE
        clear hE
        go_wp2_with fail
        go_ret3
        rw [HX.out, if_neg HE.out]
        exact ⟨⟨_, rfl, Own8.nil _ _ _⟩, HW.out⟩

/-- THE REFERENCE'S NEXT FRAME. -/
theorem refnext_calls (a : Option Addr) (c : Nat) (l : List UInt8) (w : World) (hr : Row8 w a l) (hc : l.length ≤ c) (hm : l.length ≤ 140737488300000) :
    Calls Try.prog 13 #[.slice a l.length c] w fun e w' => (∃ v, e = .returned (.tuple #[v, .int .i64 ((nextF l).2.1 : Int), .int .i64 ((nextF l).2.2 : Int)]) ∧ Own8 w' w.heap.size 5 v (nextF l).1) ∧ Below w.heap.size w w' := by
  have hx : l ≠ [] → ∃ x, a = some x ∧ ∀ i : Nat, ∀ h : i < l.length, w.cell? (x.add i) = some (.int .u8 (l[i].toNat : Int)) := by
    intro h; rcases hr with h' | h'
    · exact absurd h' h
    · exact h'
  have out : ∀ (k : Nat), ((sizeF l).2 = k ∧ k ≠ 0) → Calls Try.prog 13 #[.slice a l.length c] w (fun e w' => e = .returned (.tuple #[.slice none 0 0, .int .i64 0, .int .i64 (k : Int)]) ∧ Below w.heap.size w w') → Calls Try.prog 13 #[.slice a l.length c] w (fun e w' => (∃ v, e = .returned (.tuple #[v, .int .i64 ((nextF l).2.1 : Int), .int .i64 ((nextF l).2.2 : Int)]) ∧ Own8 w' w.heap.size 5 v (nextF l).1) ∧ Below w.heap.size w w') := by
    rintro k ⟨hk, h0⟩ H
    refine H.mono ?_
    rintro e w' ⟨rfl, hb⟩
    have : nextF l = ([], 0, k) := by unfold nextF; rw [if_pos (by omega), hk]
    rw [this]
    exact ⟨⟨_, rfl, Own8.nil _ _ _⟩, hb⟩
  match l, hr, hc, hm, hx, out with
  | [], _, _, _, _, out => exact out 4 (by simp [sizeF]) (ref_end0 a c w)
  | y :: l, hr, hc, hm, hx, out =>
    obtain ⟨x, rfl, hcell⟩ := hx (by simp)
    have c0 := hcell 0 (by simp)
    have e0 : x.add 0 = x := by simp [Addr.add]
    rw [e0] at c0
    by_cases hy : y = 0xA7
    · subst hy
      match l, hr, hc, hm, hcell, out with
      | [], _, _, _, _, out => exact out 4 (by simp [sizeF]) (ref_end1 x c w c0)
      | z :: l, hr, hc, hm, hcell, out =>
        have c1 : w.cell? ⟨x.block, x.off + 1, none⟩ = some (.int .u8 (z.toNat : Int)) := hcell 1 (by simp)
        by_cases hz : z = 0x5E
        · subst hz
          match l, hr, hc, hm, hcell, out with
          | [], _, _, _, _, out => exact out 4 (by simp [sizeF]) (ref_end2 x 2 c w c0 c1 (by omega) (by omega))
          | [p], _, _, _, _, out => exact out 4 (by simp [sizeF]) (ref_end2 x 3 c w c0 c1 (by omega) (by omega))
          | p :: q :: t, hr, hc, hm, hcell, _ =>
            exact ref_rest x c p q t w c0 c1 (hcell 2 (by simp)) (hcell 3 (by simp)) hr (by simpa using hc) (by simp at hm; omega)
        · exact out 3 (by simp [sizeF, hz]) (ref_form1 x (l.length + 1 + 1) c z w c0 c1 (by omega) hz)
    · exact out 3 (by simp [sizeF, hy]) (ref_form0 x (l.length + 1) c y w c0 (by omega) hy)
end Go.Proofs.Ytjngekbgfinidaa.Fr
