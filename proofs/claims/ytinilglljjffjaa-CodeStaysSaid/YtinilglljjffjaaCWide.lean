/- append, slices.Clone and the program's New beyond 2^47 bytes (growslice's own bound is wider). -/
import Derived.Test.YtinilglljjffjaaCWrs
import Derived.Deep.DeepAppendWide
namespace Go.Proofs.Ytinilglljjffjaa.Cd
set_option linter.unusedVariables false
set_option linter.unusedSimpArgs false
open Go.RowKit
open Go.Proofs.Ytinilglljjffjaa.Num
section
variable {P : Program}
/-- 'append(s, x...)', s the call's own bytes, x any bytes. -/
theorem wpList_append8W {w : World} {ops : Array Oper} {rest : List Oper} {o : Oper} {a : Act} {Q : Exit → Act → World → Prop} (hgd : o.guard = none) (s x : Operand) (t : TypeId)
    (ho : o.op = .call { callee := .builtin .append, args := #[s, x], argTypes := #[t, t] }) (base : Nat) (E : TypeId) (ht : P.underlying t = some (.slice E))
    (hi : (P.info? E).map (fun i => (i.zero, i.size, i.bytes)) = some (some (.int .u8 0), 1, 1))
    (v : Value) (l m : List UInt8) (A : Option Addr) (c : Nat) (hs : a.eval s = v) (hown : Own8 w base E v l) (hx : a.eval x = .slice A m.length c) (hr : Row8 w A m) (hc : A = none → c = 0)
    (hlen : l.length + m.length ≤ 150000000000000) (hbase : base ≤ w.heap.size)
    (h : ∀ v' w', Own8 w' base E v' (l ++ m) → w.grownBy w' v.ownBlock → wpList P ops Q rest (a.put o.dst v') w') : wpList P ops Q (o :: rest) a w := by
  obtain ⟨i, hi0, hz0, hz1, hz2⟩ := info_parts hi
  cases A with
  | none =>
    have hm : m = [] := by
      rcases hr with h | ⟨x, hx, _⟩
      · exact h
      · simp at hx
    subst hm
    obtain rfl := hc rfl
    refine wpList_append_own_none hgd s x t ho base E i 1 ht hi0 v l.length (l.map v8) hs hown hx ?_
    exact h v w (by rw [List.append_nil]; exact hown) ⟨rfl, rfl, rfl, Nat.le_refl _, fun _ _ _ => rfl⟩
  | some ad =>
    refine wpList_append_own_wide w hgd s x t ho base E i (.int .u8 0) 1 1 ht hi0 hz0 hz1 hz2 rfl (by omega) v l.length (l.map v8) hs hown ad m.length c (m.map v8) hx (by simp) ?_ ?_ (by unfold maxLen; omega) (by rw [Nat.mul_one]; omega) hbase ?_
    · intro j u hu
      rcases hr with rfl | ⟨x, hx, hcell⟩
      · simp at hu
      · obtain rfl := Option.some.inj hx
        have hj : j < m.length := by
          have := (List.getElem?_eq_some_iff.1 hu).1
          simpa using this
        rw [hcell j hj]
        simp [hj, v8] at hu
        rw [← hu]
    · intro u hu
      obtain ⟨x, _, rfl⟩ := List.mem_map.1 hu
      rfl
    · intro v' w' h1 h2 _
      refine h v' w' ?_ h2
      unfold Own8
      rw [List.length_append, List.map_append]
      exact h1
end
/-- slices.Clone: nil of nil; else new bytes. -/
theorem cloneW_calls (a : Option Addr) (c : Nat) (l : List UInt8) (w : World) (hr : Row8 w a l) (hn : a = none → c = 0) (hlen : l.length ≤ 150000000000000) :
    Calls Try.prog 36 #[.slice a l.length c] w fun e w' => ∃ v, e = .returned v ∧ Own8 w' w.heap.size 5 v l ∧ Below w.heap.size w w' := by
  have qT := fun (w : World) (a : Option Addr) (n c n' c' : Nat) => Lib.run_eql_slice_nil w 25 5 a n c n' c' Try.underlying25
  cases a with
  | none =>
    have hl : l = [] := by
      rcases hr with h | ⟨x, hx, _⟩
      · exact h
      · simp at hx
    subst hl
    clear hr hn hlen
    go_enter Try.func36, Try.ntmps36
    go_wp2_with fail
    go_ret
    exact ⟨_, rfl, Own8.nil _ _ _, Below.refl _ _⟩
  | some x =>
    have hb := hr.below (below_alloc1 w (.cells #[] 5))
    have G := Lib.hid (And.intro hb hlen)
    clear hr hn hlen hb
    go_enter Try.func36, Try.ntmps36
    go_wp2_with (at_builtin; refine wpList_append8W rfl _ _ 25 rfl w.heap.size 5 Try.underlying25 info8 (.slice (some ⟨w.heap.size, 0, none⟩) 0 0) [] l (some x) c rfl own_empty rfl G.out.1 (fun h => by cases h) (by have := G.out.2; simp; omega) (by simp) ?_; intro v' w1 hown hgrow; rw [List.nil_append] at hown)
    go_ret
    refine ⟨_, rfl, hown, (below_alloc1 w _).grown hgrow (by simp) (fun k hk => ?_)⟩
    simp [Value.ownBlock] at hk
    omega
set_option maxRecDepth 100000 in
theorem newW_calls (A : Option Addr) (c : Nat) (l : List UInt8) (W : World) (hr : Row8 W A l) (hA : A = none → c = 0) (hlen : l.length ≤ 150000000000000) :
    Calls Try.prog 14 #[.slice A l.length c] W fun e W' => ∃ g A' c', e = .returned (.pointer (some ⟨g, 0, none⟩)) ∧ Rst g A' c' l ⟨0, 0, 0⟩ W' ∧ Below W.heap.size W W' ∧ W.heap.size ≤ g := by
  have G := Lib.hid (cloneW_calls A c l W hr hA hlen)
  clear hr hA hlen
  go_enter Try.func14, Try.ntmps14
  go_wp2_with fail
  refine G.out.mono ?_
  rintro e W2 ⟨v2, rfl, ho, hb⟩
  have hlt := ho.lt
  obtain ⟨A2, c2, rfl, hr2, hc2, hm2, hn2⟩ := ho.row
  have hst : Rst W2.heap.size A2 c2 l ⟨0, 0, 0⟩ (W2.alloc (.cells #[.slice A2 l.length c2, .int .i64 0, .int .i64 0, .int .i64 0] 68)) :=
    ⟨heap_alloc_new _ _, hr2.below (below_alloc1 _ _), hc2, hm2, hn2, fun x hx => (hlt x.block (by
      subst hx
      rcases ho.2 with ⟨h, _⟩ | ⟨g, cap, cur, h, _⟩
      · cases h
      · cases h; rfl)).2, by simp, by simp, by simp⟩
  have H := Lib.hid (And.intro hst (And.intro (hb.alloc hb.size (.cells #[.slice A2 l.length c2, .int .i64 0, .int .i64 0, .int .i64 0] 68)) hb.size))
  clear ho hb hlt hr2 hst
  go_wp2_with fail
  go_ret
  exact ⟨_, _, _, rfl, H.out.1, H.out.2.1, H.out.2.2⟩
end Go.Proofs.Ytinilglljjffjaa.Cd
