/- Lists of bytes: the call's own, one more, and the comparison. -/
import Derived.Test.YtjngekbgfinidaaFrameTop
namespace Go.Proofs.Ytjngekbgfinidaa.Fr
set_option linter.unusedVariables false
set_option linter.unusedSimpArgs false
open Go.RowKit
open Go.Proofs.Ytjngekbgfinidaa.Num Go.Proofs.Ytjngekbgfinidaa.Crc

theorem infoS : (Try.prog.info? 22).map (fun i => (i.zero, i.size, i.bytes)) = some (some (.slice none 0 0), 1, 24) := by kernel_rfl
/-- A list of bytes, as parts with their places, as the slices that lead to it. -/
def cellsOf (ps : List (Option Addr × Nat × List UInt8)) : List Value := ps.map fun p => .slice p.1 p.2.2.length p.2.1
/-- The bytes alone. -/
def bytesOf (ps : List (Option Addr × Nat × List UInt8)) : List (List UInt8) := ps.map fun p => p.2.2
/-- v leads to a row of the call's own of slices that lead to rows of the call's own. -/
def OwnL (w : World) (base : Nat) (v : Value) (ps : List (Option Addr × Nat × List UInt8)) : Prop :=
  w.ownsRow base 22 1 v ps.length (cellsOf ps) ∧ ∀ p ∈ ps, Own8 w base 5 (.slice p.1 p.2.2.length p.2.1) p.2.2
theorem OwnL.nil (w : World) (base : Nat) : OwnL w base (.slice none 0 0) [] := ⟨World.ownsRow_nil w base _ 1, fun p h => by simp at h⟩
theorem OwnL.below {w w' : World} {base : Nat} {v : Value} {ps : List (Option Addr × Nat × List UInt8)} (h : OwnL w base v ps) (hb : Below w.heap.size w w') : OwnL w' base v ps :=
  ⟨h.1.kept (row := none) ⟨hb.os, hb.tape, hb.output, hb.size, fun i hi _ => hb.block i hi⟩ (by cases v.ownBlock <;> simp), fun p hp => (h.2 p hp).below hb⟩
/-- A row of bytes is no row of slices. -/
theorem own8_apart {w : World} {base base' : Nat} {v v' : Value} {l : List UInt8} {n : Nat} {xs : List Value} (h : Own8 w base 5 v l) (h' : w.ownsRow base' 22 1 v' n xs) : v.ownBlock = none ∨ v.ownBlock ≠ v'.ownBlock := by
  rcases h.2 with ⟨rfl, _⟩ | ⟨g, cap, cur, rfl, hb, hg, _⟩
  · exact .inl rfl
  · right
    rcases h'.2 with ⟨rfl, _⟩ | ⟨g', cap', cur', rfl, hb', hg', _⟩
    · simp [Value.ownBlock]
    · intro e
      simp [Value.ownBlock] at e
      subst e
      rw [hg] at hg'
      simp at hg'
theorem OwnL.parts {w : World} {base : Nat} {v : Value} {ps : List (Option Addr × Nat × List UInt8)} (h : OwnL w base v ps) : ∃ A c, v = .slice A ps.length c ∧ Parts w A ps ∧ ps.length ≤ c ∧ c ≤ 9223372036854775807 := by
  have hc := fun g (hg : v.ownBlock = some g) => World.ownsRow.cells h.1 hg
  rcases h.1.2 with ⟨rfl, hn⟩ | ⟨g, cap, cur, rfl, _, _, hle, hmax, _⟩
  · have hl : ps = [] := List.eq_nil_of_length_eq_zero hn
    subst hl
    exact ⟨none, 0, rfl, .inl rfl, Nat.le_refl _, by omega⟩
  · refine ⟨_, cap, rfl, .inr ⟨_, rfl, fun i hi => ⟨hc g rfl i _ (by simp [cellsOf, hi]), ?_⟩⟩, hle, by unfold maxLen at hmax; omega⟩
    obtain ⟨A, c, e, hr, hlc, hcm, _⟩ := (h.2 ps[i] (List.getElem_mem hi)).row
    injection e with e1 e2 e3
    rw [← e1] at hr
    exact ⟨hr, by omega⟩
/-- One more. -/
theorem wpList_append1 {w : World} {ops : Array Oper} {rest : List Oper} {o : Oper} {a : Act} {Q : Exit → Act → World → Prop} (hgd : o.guard = none) (s x : Operand)
    (ho : o.op = .call { callee := .builtin .append, args := #[s, x], argTypes := #[38, 38] }) (base B : Nat) (w0 : World)
    (v : Value) (ps : List (Option Addr × Nat × List UInt8)) (y : Value) (l : List UInt8) (ad : Addr) (c : Nat) (hs : a.eval s = v) (hown : OwnL w base v ps) (hy : Own8 w base 5 y l) (hx : a.eval x = .slice (some ad) 1 c) (hcell : w.cell? ad = some y)
    (hlen : ps.length ≤ 1000000) (hbase : base ≤ w.heap.size) (hb : Below B w0 w) (hB : B ≤ base)
    (h : ∀ v' w' p, OwnL w' base v' (ps ++ [p]) → p.2.2 = l → Below B w0 w' → wpList Try.prog ops Q rest (a.put o.dst v') w') : wpList Try.prog ops Q (o :: rest) a w := by
  obtain ⟨i, hi0, hz0, hz1, hz2⟩ := info_parts infoS
  obtain ⟨A, cc, rfl, _⟩ := hy.row
  refine wpList_append_own w hgd s x 38 ho base 22 i (.slice none 0 0) 1 24 Try.underlying38 hi0 hz0 hz1 hz2 rfl (by omega) v ps.length (cellsOf ps) hs hown.1 ad 1 c [.slice A l.length cc] hx rfl ?_ ?_ (by unfold maxLen; omega) (by omega) hbase ?_
  · intro j u hu
    match j, hu with
    | 0, hu =>
      simp at hu
      rw [show ad.add 0 = ad by simp [Addr.add], hcell, hu]
    | j + 1, hu => simp at hu
  · intro u hu
    simp at hu
    subst hu
    rfl
  · intro v' w' h1 h2 _
    refine h v' w' (A, cc, l) ⟨by rw [List.length_append]; unfold cellsOf at h1 ⊢; rw [List.map_append]; exact h1, ?_⟩ rfl ?_
    · intro p hp
      rw [List.mem_append, List.mem_singleton] at hp
      rcases hp with hp | rfl
      · exact (hown.2 p hp).kept h2 (own8_apart (hown.2 p hp) hown.1)
      · exact hy.kept h2 (own8_apart hy hown.1)
    · exact hb.grown h2 (Nat.le_trans hB hbase) (fun k hk => Nat.le_trans hB (World.ownsRow.lt hown.1 k hk).1)

theorem parts_below {w w' : World} {A : Option Addr} {ps : List (Option Addr × Nat × List UInt8)} (h : Parts w A ps) (hb : Below w.heap.size w w') : Parts w' A ps := by
  rcases h with h | ⟨x, rfl, h⟩
  · exact .inl h
  · refine .inr ⟨x, rfl, fun i hi => ?_⟩
    obtain ⟨h1, h2, h3⟩ := h i hi
    exact ⟨(hb.cell (World.block_lt_of_cell? w _ h1)).trans h1, h2.below hb, h3⟩
theorem len_bytesOf (ps : List (Option Addr × Nat × List UInt8)) : (bytesOf ps).length = ps.length := by unfold bytesOf; rw [List.length_map]
theorem get_bytesOf (ps : List (Option Addr × Nat × List UInt8)) {i : Nat} (h : i < ps.length) : (bytesOf ps)[i]'(by rw [len_bytesOf]; exact h) = ps[i].2.2 := by simp [bytesOf]

theorem lists_off (a a' : Option Addr) (n c n' c' : Nat) (w : World) (h : n ≠ n') :
    Calls Try.prog 23 #[.slice a n c, .slice a' n' c'] w fun e w' => e = .returned (.bool false) ∧ Below w.heap.size w w' := by
  have hb : ((n : Int) != (n' : Int)) = true := by rw [bne_iff_ne]; omega
  go_enter Try.func23, Try.ntmps23
  go_wp2_with fail
  go_ret
  exact ⟨rfl, Below.refl _ _⟩
set_option maxRecDepth 100000 in
theorem lists_calls (a : Option Addr) (c : Nat) (ps : List (Option Addr × Nat × List UInt8)) (a' : Option Addr) (c' : Nat) (qs : List (Option Addr × Nat × List UInt8)) (w : World) (hp : Parts w a ps) (hq : Parts w a' qs) (hm : ps.length ≤ 9223372036854775807) :
    Calls Try.prog 23 #[.slice a ps.length c, .slice a' qs.length c'] w fun e w' => e = .returned (.bool (decide (bytesOf ps = bytesOf qs))) ∧ Below w.heap.size w w' := by
  by_cases hn : ps.length = qs.length
  · have hb : ((ps.length : Int) != (qs.length : Int)) = false := by rw [hn]; simp
    have G := Lib.hid (And.intro hp hq)
    clear hp hq
    go_enter Try.func23, Try.ntmps23
    go_wp2_with fail
    go_loopw [5] (fun i w' => ∃ k : Nat, k ≤ ps.length ∧ i = .int .i64 (k : Int) ∧ Below w.heap.size w w' ∧ (bytesOf ps).take k = (bytesOf qs).take k) (fun i _ => ps.length - (intOf i).toNat)
    case atStart => exact ⟨0, by omega, rfl, Below.refl _ _, rfl⟩
    case round =>
      obtain ⟨k, hk, rfl, hB, hcat⟩ := hrel
      by_cases hlt : k < ps.length
      · obtain ⟨x, rfl, hc⟩ : ∃ x, a = some x ∧ ∀ i : Nat, ∀ h : i < ps.length, wr.cell? (x.add i) = some (.slice ps[i].1 ps[i].2.2.length ps[i].2.1) ∧ Row8 wr ps[i].1 ps[i].2.2 ∧ ps[i].2.2.length ≤ 9223372036854775807 := by
          rcases parts_below G.out.1 hB with h | h
          · rw [h] at hlt; simp at hlt
          · exact h
        obtain ⟨y, rfl, hd⟩ : ∃ x, a' = some x ∧ ∀ i : Nat, ∀ h : i < qs.length, wr.cell? (x.add i) = some (.slice qs[i].1 qs[i].2.2.length qs[i].2.1) ∧ Row8 wr qs[i].1 qs[i].2.2 ∧ qs[i].2.2.length ≤ 9223372036854775807 := by
          rcases parts_below G.out.2 hB with h | h
          · exfalso; rw [hn, h] at hlt; simp at hlt
          · exact h
        obtain ⟨c1, r1, _⟩ := hc k hlt
        have hltq : k < qs.length := by omega
        obtain ⟨c2, r2, _⟩ := hd k hltq
        have k1 := fun n => conv_row (w := wr.drewN n) (P := Try.prog) (src := 22) (dst := 9) Try.underlying22 Try.underlying5 Try.underlying9 r1 ps[k].2.1
        have k2 := fun n => conv_row (w := wr.drewN n) (P := Try.prog) (src := 22) (dst := 9) Try.underlying22 Try.underlying5 Try.underlying9 r2 qs[k].2.1
        clear hc hd r1 r2
        obtain ⟨l1, e1⟩ : ∃ l1, l1 = ps[k].2.2 := ⟨_, rfl⟩
        obtain ⟨l2, e2⟩ : ∃ l2, l2 = qs[k].2.2 := ⟨_, rfl⟩
        obtain ⟨A1, e3⟩ : ∃ l1, l1 = ps[k].1 := ⟨_, rfl⟩
        obtain ⟨A2, e4⟩ : ∃ l1, l1 = qs[k].1 := ⟨_, rfl⟩
        obtain ⟨C1, e5⟩ : ∃ l1, l1 = ps[k].2.1 := ⟨_, rfl⟩
        obtain ⟨C2, e6⟩ : ∃ l1, l1 = qs[k].2.1 := ⟨_, rfl⟩
        rw [← e1, ← e3, ← e5] at c1 k1
        rw [← e2, ← e4, ← e6] at c2 k2
        have HE := Lib.hid (And.intro e1 (And.intro e2 (And.intro hcat hB)))
        clear e1 e2 e3 e4 e5 e6 hcat hB
        go_wp2_with fail
        go_quiet (fail)
        rw [txt_list, txt_list]
        by_cases hl : l1 = l2
        · have hq : (l1 == l2) = true := by rw [hl]; exact beq_self_eq_true _
          rw [hq]
          have HL := Lib.hid hl
          clear hl hq k1 k2 c1 c2
          go_wp2_with fail
          go_round
          case rel =>
            refine ⟨k + 1, by omega, by go_num, below_drewN HE.out.2.2.2 _, ?_⟩
            rw [List.take_succ_eq_append_getElem (by rw [len_bytesOf]; exact hlt), List.take_succ_eq_append_getElem (by rw [len_bytesOf]; exact hltq), HE.out.2.2.1, get_bytesOf ps hlt, get_bytesOf qs hltq, ← HE.out.1, ← HE.out.2.1, HL.out]
          case measure => (first | (simp [intOf]; done) | (simp [intOf]; omega))
        · have hq : (l1 == l2) = false := by rw [beq_eq_false_iff_ne]; exact hl
          rw [hq]
          have HL := Lib.hid hl
          clear hl hq k1 k2 c1 c2
          go_wp2_with fail
          go_ret
          refine ⟨?_, below_drewN HE.out.2.2.2 _⟩
          rw [decide_eq_false]
          · rfl
          · intro h
            apply HL.out
            rw [HE.out.1, HE.out.2.1, ← get_bytesOf ps hlt, ← get_bytesOf qs hltq]
            exact List.getElem_of_eq h _
      · obtain rfl : k = ps.length := by omega
        have HC := Lib.hid hcat
        clear hcat
        go_wp2_with fail
        go_ret
        refine ⟨?_, hB⟩
        have h := HC.out
        rw [List.take_of_length_le (by rw [len_bytesOf]; omega), List.take_of_length_le (by rw [len_bytesOf]; omega)] at h
        rw [decide_eq_true h]
        rfl
  · refine (lists_off a a' ps.length c qs.length c' w hn).mono ?_
    rintro e w' ⟨rfl, hb⟩
    refine ⟨?_, hb⟩
    rw [decide_eq_false]
    intro h
    apply hn
    rw [← len_bytesOf ps, h, len_bytesOf]
end Go.Proofs.Ytjngekbgfinidaa.Fr
