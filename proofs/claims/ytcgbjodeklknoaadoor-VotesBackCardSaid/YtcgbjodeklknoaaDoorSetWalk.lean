/- The walk of the iterator over a set. -/
import Derived.Test.YtcgbjodeklknoaaDoorTzWalk
import Derived.Test.YtcgbjodeklknoaaDoorSetPlain
import Derived.OwnWalkIn
import Derived.TacticsInMore
import Derived.LoopNIn
import Derived.LoopIn
import Derived.Maps.AppendAt
namespace Go.Proofs.YtcgbjodeklknoaaDoor.Bit
set_option linter.unusedVariables false
set_option linter.unusedSimpArgs false
open Go.RowKit Go.Shelf
attribute [local go_sem] Oper.semAt_some

theorem tab_below {w w' : World} {n₀ : Nat} (h : TabAt 0 Lib.deBruijn64tab w) (hb : Below n₀ w w') (h0 : 0 < n₀) : TabAt 0 Lib.deBruijn64tab w' := fun j hj => (hb.cell (p := ⟨0, j, none⟩) h0).trans (h j hj)

/-- What a box holds, as a number. -/
def boxNat (w : World) (B : Nat) : Nat := match w.cell? ⟨B, 0, none⟩ with
  | some (.int _ n) => n.toNat
  | _ => 0
set_option maxRecDepth 100000 in
set_option maxHeartbeats 1000000 in
theorem all1_in (n l B n₀ : Nat) (hn : 1 ≤ n) (h0n : 0 < n₀) (hBn : n₀ ≤ B) (s : Nat) (hs : s < 18446744073709551616) (J : List Nat → World → Prop) (W : World) (hT : TabAt 0 Lib.deBruijn64tab W)
    (hJ : ∀ p W u v, J p W → Boxed W B 35 u → J p (W.setCell ⟨B, 0, none⟩ v))
    (hY : ∀ pre x W1, J pre W1 → pre.length < 64 → YieldAt Fence.wide (n - 1) Tryd.prog l #[.int .i64 ((x : Nat) : Int)] W1 fun e W' => e = .returned (.bool true) ∧ J (pre ++ [x]) W' ∧ Below n₀ W1 W' ∧ ∀ u, Boxed W1 B 35 u → Boxed W' B 35 u)
    (hB : Boxed W B 35 (.int .u64 (s : Int))) (h0 : J [] W) :
    CallsIn Fence.wide n Tryd.prog 68 #[.func (.yield l) #[] #[], .pointer (some ⟨B, 0, none⟩)] W fun e W' => (∃ v, e = .returned v) ∧ ∃ xs, xs = elems s ∧ J xs W' := by
  refine callsIn_of_wp Tryd.func68 rfl trivial ?_ rfl
  simp only [Tryd.ntmps68, List.size_toArray, List.length_cons, List.length_nil, Nat.reduceAdd, Nat.reduceSub, Array.replicate_succ, Array.replicate_zero, List.push_toArray, List.append_toArray, List.nil_append, List.cons_append]
  gi_wp2
  gi_loopw [3] (fun _ wr => ∃ (pre : List Nat) (s' : Nat), elems s = pre ++ elems s' ∧ s' < 18446744073709551616 ∧ Boxed wr B 35 (.int .u64 (s' : Int)) ∧ J pre wr ∧ TabAt 0 Lib.deBruijn64tab wr) (fun _ wr => boxNat wr B)
  case atStart => exact ⟨[], s, rfl, hs, hB, h0, hT⟩
  case round =>
    obtain ⟨pre, s', hcat, hs', hb, hj, hT'⟩ := hrel
    have hc := hb.cell
    have H := Lib.hid (And.intro hcat (And.intro hb (And.intro hj hT')))
    by_cases h : s' = 0
    · subst h
      clear hcat hb hj hT'
      gi_wp2
      go_end0
      have := H.out.1
      rw [elems_zero, List.append_nil] at this
      exact ⟨⟨_, rfl⟩, pre, this.symm, H.out.2.2.1⟩
    · have hne : ((s' : Int) != 0) = true := by rw [bne_iff_ne]; omega
      obtain ⟨e1, e2, e3⟩ := elems_cons s' h hs'
      have hlen : pre.length < 64 := by
        have h1 := len_elems s
        rw [hcat, e1, List.length_append, List.length_cons] at h1
        omega
      have htz := tz_calls s' h hs' wr hT'
      have hdrop := drop_prog s' h hs'
      obtain ⟨c, hcc⟩ : ∃ c, c = Lib.ctz 64 s' := ⟨_, rfl⟩
      rw [← hcc] at e1 htz
      obtain ⟨s2, hs2⟩ : ∃ s2, s2 = s' &&& (s' - 1) := ⟨_, rfl⟩
      rw [← hs2] at e1 e2 hdrop
      obtain ⟨fn, tmps, assign, body, hy, hR⟩ := hY pre c wr hj hlen
      have H2 := Lib.hid (And.intro htz (And.intro hR (And.intro e1 e2)))
      clear hcat hb hj hT' htz hR e1 e2 e3 hcc hs2 h
      gi_wp2_with (refine ⟨trivial, ?_⟩; gi_at_call 69; refine (callsIn_wide.2 H2.out.1).mono ?_; rintro e w' ⟨rfl, rfl⟩)
      refine H2.out.2.1.mono ?_
      rintro e W3 ⟨rfl, hj3, hb3, hx3⟩
      have hb4 := hx3 _ H.out.2.1
      have hc3 := hb4.cell
      have hf3 := hb4.frozen
      have H3 := Lib.hid (And.intro hj3 (And.intro hb3 hb4))
      clear hj3 hb3 hx3 hb4 hy
      gi_wp2
      refine ⟨⟨pre ++ [c], s2, by rw [H.out.1, H2.out.2.2.1, List.append_assoc]; rfl, by have := H2.out.2.2.2; omega, H3.out.2.2.set _, hJ _ _ _ _ H3.out.1 H3.out.2.2, tab_below H.out.2.2.2 (H3.out.2.1.setCell (p := ⟨B, 0, none⟩) hBn _) h0n⟩, ?_⟩
      unfold boxNat
      rw [(H3.out.2.2.set (.int .u64 (s2 : Int))).cell, hc]
      have := H2.out.2.2.2
      simp
      omega

theorem all_calls (s : Nat) (w : World) :
    Calls Tryd.prog 59 #[.int .u64 (s : Int)] w fun e w' => e = .returned (.func (.func 68) #[] #[.pointer (some ⟨w.heap.size, 0, none⟩)]) ∧ w' = w.alloc (.cells #[.int .u64 (s : Int)] 35) := by
  go_enter Tryd.func59, Tryd.ntmps59
  go_wp2_with fail
  go_ret
  exact ⟨rfl, rfl⟩
theorem all_box (n B n₀ : Nat) (hn : 1 ≤ n) (h0n : 0 < n₀) (hBn : n₀ ≤ B) (s : Nat) (hs : s < 18446744073709551616) (w : World) (hT : TabAt 0 Lib.deBruijn64tab w) (hB : Boxed w B 35 (.int .u64 (s : Int))) (hn₀ : n₀ ≤ w.heap.size) :
    SeqBox Fence.wide n Tryd.prog 68 #[.pointer (some ⟨B, 0, none⟩)] (fun x : Nat => .int .i64 (x : Int)) B 35 n₀ (fun xs => xs = elems s) 64 w := fun l J W hW hJ hY h0 =>
  all1_in n l B n₀ hn h0n hBn s hs J W (tab_below hT (hW.mono hn₀) h0n) hJ hY ((hW.block B hB.lt).trans hB) h0

theorem info3 : (Tryd.prog.info? 3).map (fun i => (i.zero, i.size, i.bytes)) = some (some (.int .i64 0), 1, 8) := by kernel_rfl
/-- Numbers as cells. -/
def ints (xs : List Nat) : List Value := xs.map fun x : Nat => .int .i64 (x : Int)
theorem rowset_other {W : World} {B : Nat} {t e : TypeId} {u v' : Value} (h : Boxed W B t u) (hte : t ≠ e) {base size k : Nat} {v : Value} {xs : List Value} (hr : W.ownsRow base e size v k xs) : (W.setCell ⟨B, 0, none⟩ v').ownsRow base e size v k xs :=
  hr.kept (grownBy_setCell' W B v') (.inr (h.not_row hte hr).symm)
set_option maxRecDepth 100000 in
set_option maxHeartbeats 2000000 in
/-- THE LIST OF A SET. -/
theorem list_in (s : Nat) (hs : s < 18446744073709551616) (w : World) (hT : TabAt 0 Lib.deBruijn64tab w) (hw : 0 < w.heap.size) :
    CallsIn Fence.wide 9 Tryd.prog 47 #[.int .u64 (s : Int)] w fun e W' => ∃ v, e = .returned v ∧ W'.ownsRow w.heap.size 3 1 v (elems s).length (ints (elems s)) ∧ Below w.heap.size w W' := by
  obtain ⟨i0, hi, hz0, hz1, hz2⟩ := info_parts info3
  refine callsIn_of_wp_marks Tryd.func47 rfl trivial ?_ rfl
  simp only [Tryd.ntmps47, List.size_toArray, List.length_cons, List.length_nil, Nat.reduceAdd, Nat.reduceSub, Array.replicate_succ, Array.replicate_zero, List.push_toArray, List.append_toArray, List.nil_append, List.cons_append]
  gi_wp2_with (refine ⟨trivial, ?_⟩; gi_at_call 59; refine (callsIn_wide.2 (all_calls s _)).mono ?_; rintro e w' ⟨rfl, rfl⟩)
  have bO := Boxed.new w 50 (.slice none 0 0)
  have bN := Boxed.new (w.alloc (.cells #[.slice none 0 0] 50)) 35 (.int .u64 (s : Int))
  rw [World.size_alloc] at bN
  have hB0 : Below w.heap.size w ((w.alloc (.cells #[.slice none 0 0] 50)).alloc (.cells #[.int .u64 (s : Int)] 35)) := ((Below.refl _ w).alloc (Nat.le_refl _) _).alloc (by simp) _
  refine wpIn_rangeFunc_box rfl (by omega) (gf := 68) (lb := #[.pointer (some ⟨w.heap.size + 1, 0, none⟩)]) rfl trivial (enters_of Tryd.func68 (by kernel_rfl) rfl)
    (all_box 8 (w.heap.size + 1) w.heap.size (by omega) hw (by omega) s hs _ (tab_below hT hB0 hw) bN (by simp; omega)) (by simp; omega) (Below.refl _ _) rfl
    (fun pre W => (∃ v, Boxed W w.heap.size 50 v ∧ W.ownsRow w.heap.size 3 1 v pre.length (ints pre) ∧ True) ∧ Below w.heap.size w W)
    (OwnFrom.and (Own.from (holdsRow_own w.heap.size w.heap.size 50 3 1 (fun pre : List Nat => pre.length) (fun pre => ints pre) (fun _ _ => True)) _) (ownFrom_below (Nat.le_refl _) (by simp; omega)))
    ?iter
    ⟨⟨_, bO.alloc _, World.ownsRow_nil _ _ _ _, trivial⟩, hB0⟩ (by simp)
    (fun x => { tmps := #[.int .u64 (s : Int), undef, .slice none 0 0, .pointer (some ⟨w.heap.size, 0, none⟩), .int .i64 (x : Int), .int .u64 (s : Int), .func (.func 68) #[] #[.pointer (some ⟨w.heap.size + 1, 0, none⟩)], .int .i64 (x : Int), undef, undef, undef, undef, undef], defers := [] }) ?assign ?body ?done
  case iter =>
    rintro pre W u u' ⟨⟨v, hv, hrow, _⟩, hB⟩ hu
    exact ⟨⟨v, hv.other (by omega) u', rowset_other hu (by decide) hrow, trivial⟩, hB.setCell (p := ⟨w.heap.size + 1, 0, none⟩) (by simp) u'⟩
  case assign =>
    intro l x W K hK
    gi_wp2
    exact hK
  case body =>
    rintro l pre x W _ ⟨⟨v, hv, hrow, _⟩, hB⟩ hlt
    have hc := hv.cell
    gi_wp2_with (gi_at_builtin; refine wpListIn_append_own _ rfl _ _ 50 rfl w.heap.size 3 i0 (.int .i64 0) 1 8 Tryd.underlying50 hi hz0 hz1 hz2 rfl (by decide) _ _ _ rfl (hrow.alloc _) ⟨W.heap.size, 0, none⟩ 1 1 [.int .i64 (x : Int)] rfl rfl (cell_one_new _ _ _) (by simp [Value.oneCell']) (by unfold maxLen; omega) (by omega) (by have := hB.size; simp; omega) ?_; intro v' w1 hown' hgrow _; obtain ⟨g', cap', rfl⟩ := ownsRow_succ hown'; obtain ⟨hv1, hv2, hr2, hk2, hb2⟩ := hv.appended (by decide) hrow hB.size (Nat.le_refl _) hown' hgrow; have hc1 := hv1.cell; have hf1 := hv1.frozen)
    refine ⟨hk2, hb2, fun u hu => ?_, ⟨_, hv2, by rw [List.length_append, List.length_singleton]; unfold ints at hr2 ⊢; rw [List.map_append]; exact hr2, trivial⟩, hB.trans hb2⟩
    exact (((hu.alloc _).kept hgrow (hu.not_row (by decide) hrow)).other (by omega) _)
  case done =>
    rintro D ys W hD rfl ⟨⟨v, hv, hrow, _⟩, hB⟩ hK
    have hc := hv.cell
    gi_wp2
    refine ⟨by simp, .inl ⟨_, _, rfl, run_takeDeferred hK, ?_⟩⟩
    exact ⟨_, results_tmp rfl _ _ _, v, rfl, ownsRow_putObj hrow _ hK rfl, hB.trans (belowK_b (w := w) (Nat.le_refl _) W D _ _ (by simp at hD; omega) hK rfl rfl)⟩
theorem list_calls (s : Nat) (hs : s < 18446744073709551616) (w : World) (hT : TabAt 0 Lib.deBruijn64tab w) (hw : 0 < w.heap.size) :
    Calls Tryd.prog 47 #[.int .u64 (s : Int)] w fun e W' => ∃ v, e = .returned v ∧ W'.ownsRow w.heap.size 3 1 v (elems s).length (ints (elems s)) ∧ Below w.heap.size w W' := callsIn_wide.1 (list_in s hs w hT hw)
end Go.Proofs.YtcgbjodeklknoaaDoor.Bit
