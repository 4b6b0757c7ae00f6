/- The walks of the program's reader: new, a number, a byte, what is left, its fault, its end. -/
import Derived.Test.YtinilglljjffjaaCW
import Derived.BigQuiet
import Derived.Deep.RegionHeld3
namespace Go.Proofs.Ytinilglljjffjaa.Cd
set_option linter.unusedVariables false
set_option linter.unusedSimpArgs false
open Go.RowKit
open Go.Proofs.Ytinilglljjffjaa.Num

/-- Where a reader is: how many bytes went, its fault. -/
structure Rs where
  at_ : Nat
  why : Nat
  fat : Nat
/-- A reader's block g. -/
structure Rst (g : Nat) (A : Option Addr) (c : Nat) (l : List UInt8) (s : Rs) (W : World) : Prop where
  box : W.heap[g]? = some (.cells #[.slice A l.length c, .int .i64 (s.at_ : Int), .int .i64 (s.why : Int), .int .i64 (s.fat : Int)] 68 (0, 0))
  row : Row8 W A l
  cap : l.length ≤ c
  big : c ≤ 9223372036854775807
  nul : A = none → c = 0
  far : ∀ x, A = some x → x.block < g
  at_ : s.at_ ≤ l.length
  fat : s.fat ≤ l.length
  why : s.why ≤ 17
/-- Nothing but block g has turned. -/
def But (g : Nat) (W W' : World) : Prop := Turn g (.slice none 0 0) (.slice none 0 0) W W'
theorem But.trans {g : Nat} {W W' W'' : World} (h : But g W W') (k : But g W' W'') : But g W W'' := Turn.trans h k
theorem But.of_below {g : Nat} {W W' : World} (h : Below W.heap.size W W') : But g W W' := Turn.of_below h
theorem But.below {B g : Nat} {W W' : World} (h : But g W W') (hB : B ≤ g) (hW : B ≤ W.heap.size) : Below B W W' :=
  ⟨h.os, h.tape, h.output, h.size, fun i hi => h.keep i (by omega) (by omega) (by simp [Value.ownBlock])⟩
theorem But.heap {g : Nat} {W W' : World} (h : But g W W') {k : Nat} {o : Obj} (hk : W.heap[k]? = some o) (hg : k ≠ g) : W'.heap[k]? = some o :=
  (h.keep k (Array.getElem?_eq_some_iff.1 hk).1 hg (by simp [Value.ownBlock])).trans hk
theorem But.row {g : Nat} {W W' : World} (h : But g W W') {A : Option Addr} {l : List UInt8} (hr : Row8 W A l) (hf : ∀ x, A = some x → x.block < g) : Row8 W' A l := by
  rcases hr with h1 | ⟨x, rfl, hc⟩
  · exact .inl h1
  · refine .inr ⟨x, rfl, fun i hi => ?_⟩
    have h1 := hc i hi
    have hlt := World.block_lt_of_cell? W _ h1
    have hb : (x.add i).block = x.block := by unfold Addr.add; split <;> rfl
    rw [← h1]
    refine World.cell?_of_block ?_
    rw [hb] at hlt ⊢
    exact h.keep _ hlt (by have := hf x rfl; omega) (by simp [Value.ownBlock])
theorem But.set {g : Nat} (W : World) (i : Nat) (v : Value) : But g W (W.setCell ⟨g, i, none⟩ v) :=
  ⟨rfl, rfl, rfl, by simp, fun k _ hk _ => Below.heap_setCell _ ⟨g, i, none⟩ _ _ hk, fun k hk => by simp [Value.ownBlock] at hk⟩
theorem Rst.below {g : Nat} {A : Option Addr} {c : Nat} {l : List UInt8} {s : Rs} {W W' : World} (h : Rst g A c l s W) (hb : Below W.heap.size W W') : Rst g A c l s W' :=
  ⟨(hb.block g (Array.getElem?_eq_some_iff.1 h.box).1).trans h.box, h.row.below hb, h.cap, h.big, h.nul, h.far, h.at_, h.fat, h.why⟩
theorem Rst.drew {g : Nat} {A : Option Addr} {c : Nat} {l : List UInt8} {s : Rs} {W : World} (h : Rst g A c l s W) : Rst g A c l s W.drew := ⟨h.box, h.row, h.cap, h.big, h.nul, h.far, h.at_, h.fat, h.why⟩
theorem But.drew {g : Nat} {W W' : World} (h : But g W.drew W') : But g W W' := ⟨h.os, h.tape, h.output, h.size, h.keep, h.own⟩
theorem Rst.cells {g : Nat} {A : Option Addr} {c : Nat} {l : List UInt8} {s : Rs} {W : World} (h : Rst g A c l s W) :
    W.cell? ⟨g, 0, none⟩ = some (.slice A l.length c) ∧ W.cell? ⟨g, 1, none⟩ = some (.int .i64 (s.at_ : Int)) ∧ W.cell? ⟨g, 2, none⟩ = some (.int .i64 (s.why : Int)) ∧ W.cell? ⟨g, 3, none⟩ = some (.int .i64 (s.fat : Int)) := by
  simp [World.cell?, h.box]
theorem Rst.free {g : Nat} {A : Option Addr} {c : Nat} {l : List UInt8} {s : Rs} {W : World} (h : Rst g A c l s W) (i : Nat) : W.frozen? ⟨g, i, none⟩ = false := by
  simp [World.frozen?, h.box]
set_option maxRecDepth 100000 in
theorem new_calls (A : Option Addr) (c : Nat) (l : List UInt8) (W : World) (hr : Row8 W A l) (hA : A = none → c = 0) (hlen : l.length ≤ 140737488355328) :
    Calls Try.prog 14 #[.slice A l.length c] W fun e W' => ∃ g A' c', e = .returned (.pointer (some ⟨g, 0, none⟩)) ∧ Rst g A' c' l ⟨0, 0, 0⟩ W' ∧ Below W.heap.size W W' ∧ W.heap.size ≤ g := by
  have G := Lib.hid (clone_calls A c l W hr hA hlen)
  clear hr hA hlen
  go_enter Try.func14, Try.ntmps14
  go_wp2_with fail
  refine G.out.mono ?_
  rintro e W2 ⟨v2, rfl, ho, hb⟩
  have hlt := ho.lt
  obtain ⟨A2, c2, rfl, hr2, hc2, hm2, hn2⟩ := ho.row
  have hst : Rst W2.heap.size A2 c2 l ⟨0, 0, 0⟩ (W2.alloc (.cells #[.slice A2 l.length c2, .int .i64 0, .int .i64 0, .int .i64 0] 68)) :=
    ⟨heap_alloc_new _ _, hr2.below (below_alloc1 _ _), hc2, hm2, hn2, fun x hx => (hlt x.block (by
      subst hx
      rcases ho.2 with ⟨h, _⟩ | ⟨g, cap, cur, h, _⟩
      · cases h
      · cases h; rfl)).2, by simp, by simp, by simp⟩
  have H := Lib.hid (And.intro hst (And.intro (hb.alloc hb.size (.cells #[.slice A2 l.length c2, .int .i64 0, .int .i64 0, .int .i64 0] 68)) hb.size))
  clear ho hb hlt hr2 hst
  go_wp2_with fail
  go_ret
  exact ⟨_, _, _, rfl, H.out.1, H.out.2.1, H.out.2.2⟩
/-- What is left. -/
def leftF (l : List UInt8) (s : Rs) : Nat := if s.why = 0 ∧ s.fat = 0 then l.length - s.at_ else 0
set_option maxRecDepth 100000 in
theorem left_calls (g : Nat) (A : Option Addr) (c : Nat) (l : List UInt8) (s : Rs) (W : World) (h : Rst g A c l s W) :
    Calls Try.prog 18 #[.pointer (some ⟨g, 0, none⟩)] W fun e W' => e = .returned (.int .i64 (leftF l s : Int)) ∧ Below W.heap.size W W' := by
  obtain ⟨k0, k1, k2, k3⟩ := h.cells
  have hat := h.at_
  have hcap := h.cap
  have hbig := h.big
  obtain ⟨a, y, f⟩ := s
  simp only at k1 k2 k3 hat
  by_cases hz : y = 0 ∧ f = 0
  · obtain ⟨rfl, rfl⟩ := hz
    have hL : (leftF l ⟨a, 0, 0⟩ : Int) = (l.length : Int) - (a : Int) := by unfold leftF; simp; omega
    rw [hL]
    clear h
    go_enter Try.func18, Try.ntmps18
    go_wp2_with fail
    go_quiet (fail)
    go_wp2_with fail
    go_ret
    exact ⟨rfl, below_drewN (Below.refl _ _) _⟩
  · have hL : (leftF l ⟨a, y, f⟩ : Int) = 0 := by unfold leftF; rw [if_neg hz]; rfl
    rw [hL]
    clear h hL
    by_cases hy : y = 0
    · have hf : ((f : Int) == 0) = false := by rw [beq_eq_false_iff_ne]; omega
      subst hy
      go_enter Try.func18, Try.ntmps18
      go_wp2_with fail
      go_ret
      exact ⟨rfl, Below.refl _ _⟩
    · have hyy : ((y : Int) == 0) = false := by rw [beq_eq_false_iff_ne]; omega
      go_enter Try.func18, Try.ntmps18
      go_wp2_with fail
      go_ret
      exact ⟨rfl, Below.refl _ _⟩
theorem fault_calls (g : Nat) (A : Option Addr) (c : Nat) (l : List UInt8) (s : Rs) (W : World) (h : Rst g A c l s W) :
    Calls Try.prog 24 #[.pointer (some ⟨g, 0, none⟩)] W fun e W' => e = .returned (.agg #[.int .i64 (s.why : Int), .int .i64 (s.fat : Int)]) ∧ Below W.heap.size W W' := by
  have h1 := h.below (below_alloc1 W (.cells #[.int .i64 0, .int .i64 0] 43))
  obtain ⟨_, _, k2, k3⟩ := h1.cells
  have hlt := (Array.getElem?_eq_some_iff.1 h.box).1
  clear h h1
  go_enter Try.func24, Try.ntmps24
  go_wp2_with fail
  refine bodyPost_ret (v := .agg #[.int .i64 (s.why : Int), .int .i64 (s.fat : Int)]) (by simp [results, Try.results24, go_sem]) rfl ⟨rfl, ?_⟩
  exact below_alloc1 _ _
/-- A reader's end. -/
def endF (l : List UInt8) (s : Rs) : Rs := if 0 < leftF l s then ⟨s.at_, 3, s.at_⟩ else s
theorem block_set {w : World} {g i : Nat} {cs : Array Value} {t : TypeId} {fr : Nat × Nat} (h : w.heap[g]? = some (.cells cs t fr)) (v : Value) : (w.setCell ⟨g, i, none⟩ v).heap[g]? = some (.cells (cs.setIfInBounds i v) t fr) := by
  rw [setCell_eq_setRow w g i cs t fr v h]
  exact setRow_heap w g _ _ t _ h
/-- A fault is laid. -/
theorem Rst.faulted {g : Nat} {A : Option Addr} {c : Nat} {l : List UInt8} {s : Rs} {W : World} (h : Rst g A c l s W) (y f : Nat) (hy : y ≤ 17) (hf : f ≤ l.length) :
    Rst g A c l ⟨s.at_, y, f⟩ ((W.setCell ⟨g, 2, none⟩ (.int .i64 (y : Int))).setCell ⟨g, 3, none⟩ (.int .i64 (f : Int))) ∧ But g W ((W.setCell ⟨g, 2, none⟩ (.int .i64 (y : Int))).setCell ⟨g, 3, none⟩ (.int .i64 (f : Int))) := by
  have hb := (But.set (g := g) W 2 (.int .i64 (y : Int))).trans (But.set (g := g) _ 3 (.int .i64 (f : Int)))
  refine ⟨⟨?_, hb.row h.row h.far, h.cap, h.big, h.nul, h.far, h.at_, hf, hy⟩, hb⟩
  have := block_set (i := 3) (block_set (i := 2) h.box (.int .i64 (y : Int))) (.int .i64 (f : Int))
  simpa using this
/-- The reader goes on. -/
theorem Rst.moved {g : Nat} {A : Option Addr} {c : Nat} {l : List UInt8} {s : Rs} {W : World} (h : Rst g A c l s W) (a : Nat) (ha : a ≤ l.length) :
    Rst g A c l ⟨a, s.why, s.fat⟩ (W.setCell ⟨g, 1, none⟩ (.int .i64 (a : Int))) ∧ But g W (W.setCell ⟨g, 1, none⟩ (.int .i64 (a : Int))) := by
  have hb := But.set (g := g) W 1 (.int .i64 (a : Int))
  refine ⟨⟨?_, hb.row h.row h.far, h.cap, h.big, h.nul, h.far, ha, h.fat, h.why⟩, hb⟩
  have := block_set (i := 1) h.box (.int .i64 (a : Int))
  simpa using this
theorem But.set2 {g b : Nat} (W W' : World) (h : But g W W') (hb : W.heap.size ≤ b) (x y : Value) : But g W ((W'.setCell ⟨b, 0, none⟩ x).setCell ⟨b, 1, none⟩ y) := by
  have hs : W'.heap.size = ((W'.setCell ⟨b, 0, none⟩ x).setCell ⟨b, 1, none⟩ y).heap.size := by simp
  refine ⟨h.os, h.tape, h.output, hs ▸ h.size, fun k hk hg hv => ?_, fun k hk => by simp [Value.ownBlock] at hk⟩
  rw [Below.heap_setCell _ ⟨b, 1, none⟩ _ _ (by show k ≠ b; omega), Below.heap_setCell _ ⟨b, 0, none⟩ _ _ (by show k ≠ b; omega)]
  exact h.keep k hk hg hv
theorem Rst.set2 {g b : Nat} {A : Option Addr} {c : Nat} {l : List UInt8} {s : Rs} {W W0 : World} (h : Rst g A c l s W) (hW : W0.heap.size ≤ b) (hg : g < W0.heap.size) (x y : Value) : Rst g A c l s ((W.setCell ⟨b, 0, none⟩ x).setCell ⟨b, 1, none⟩ y) := by
  have hne : g ≠ b := by omega
  refine ⟨?_, ?_, h.cap, h.big, h.nul, h.far, h.at_, h.fat, h.why⟩
  · rw [Below.heap_setCell _ ⟨b, 1, none⟩ _ _ hne, Below.heap_setCell _ ⟨b, 0, none⟩ _ _ hne]; exact h.box
  · rcases h.row with h1 | ⟨z, hz, hc⟩
    · exact .inl h1
    · refine .inr ⟨z, hz, fun i hi => ?_⟩
      have hb : (z.add i).block = z.block := by unfold Addr.add; split <;> rfl
      have := h.far z hz
      rw [World.cell?_setCell_other _ ⟨b, 1, none⟩ _ _ (by intro e; have := congrArg Addr.block e; rw [hb] at this; simp at this; omega), World.cell?_setCell_other _ ⟨b, 0, none⟩ _ _ (by intro e; have := congrArg Addr.block e; rw [hb] at this; simp at this; omega)]
      exact hc i hi
set_option maxHeartbeats 1000000 in
theorem end_calls (g : Nat) (A : Option Addr) (c : Nat) (l : List UInt8) (s : Rs) (W : World) (h : Rst g A c l s W) :
    Calls Try.prog 17 #[.pointer (some ⟨g, 0, none⟩)] W fun e W' => e = .returned (.agg #[.int .i64 ((endF l s).why : Int), .int .i64 ((endF l s).fat : Int)]) ∧ Rst g A c l (endF l s) W' ∧ But g W W' := by
  have h1 := h.below (below_alloc1 W (.cells #[.int .i64 0, .int .i64 0] 43))
  have hb1 : Below W.heap.size W (W.alloc (.cells #[.int .i64 0, .int .i64 0] 43)) := below_alloc1 _ _
  have hz : (W.alloc (.cells #[.int .i64 0, .int .i64 0] 43)).heap[W.heap.size]? = some (.cells #[.int .i64 0, .int .i64 0] 43 (0, 0)) := heap_alloc_new _ _
  have hlt := (Array.getElem?_eq_some_iff.1 h.box).1
  have hat := h.at_
  have hleft := fun W h => left_calls g A c l s W h
  have hff : ∀ L, L = leftF l s → endF l s = if 0 < L then ⟨s.at_, 3, s.at_⟩ else s := by rintro L rfl; rfl
  obtain ⟨L, hL⟩ : ∃ L, L = leftF l s := ⟨_, rfl⟩
  have hff := hff L hL
  rw [← hL] at hleft
  obtain ⟨s', hs'⟩ : ∃ s', s' = endF l s := ⟨_, rfl⟩
  rw [← hs'] at hff ⊢
  have H1 := Lib.hid (And.intro h1 (And.intro hb1 (And.intro hz (And.intro hleft (And.intro hff hat)))))
  clear h h1 hb1 hz hleft hff hL hs' hat
  go_enter Try.func17, Try.ntmps17
  go_wp2_with fail
  generalize W.alloc (.cells #[.int .i64 0, .int .i64 0] 43) = W1 at H1 ⊢
  refine (H1.out.2.2.2.1 W1 H1.out.1).mono ?_
  rintro e W2 ⟨rfl, hb2⟩
  have hW1 : W.heap.size < W1.heap.size := (Array.getElem?_eq_some_iff.1 H1.out.2.2.1).1
  have H2 := Lib.hid (And.intro (H1.out.1.below hb2) (And.intro (H1.out.2.1.trans (hb2.mono H1.out.2.1.size)) ((hb2.block _ hW1).trans H1.out.2.2.1)))
  clear hb2 hW1
  by_cases h0 : 0 < L
  · have hs' := H1.out.2.2.2.2.1
    rw [if_pos h0] at hs'
    obtain ⟨hr3, hb3⟩ := H2.out.1.faulted 3 s.at_ (by omega) H1.out.2.2.2.2.2
    obtain ⟨k0, k1, k2, k3⟩ := H2.out.1.cells
    have f2 := H2.out.1.free 2
    have f3 := H2.out.1.free 3
    have hz3 := hb3.heap H2.out.2.2 (by omega)
    rw [← hs'] at hr3
    have hz2 := H2.out.2.1.size
    have H3 := Lib.hid (And.intro hr3 (And.intro ((But.of_below H2.out.2.1).trans hb3) hz3))
    clear hr3 hb3 hz3 hs'
    go_wp2_with fail
    refine (fault_calls g A c l s' _ H3.out.1).mono ?_
    rintro e W4 ⟨rfl, hb4⟩
    have hr4 := H3.out.1.below hb4
    have hlt3 := (Array.getElem?_eq_some_iff.1 H3.out.2.2).1
    have hz4 := (hb4.block _ hlt3).trans H3.out.2.2
    have c0 : W4.cell? ⟨W.heap.size, 0, none⟩ = some (.int .i64 0) := by simp [World.cell?, hz4]
    have c1 : W4.cell? ⟨W.heap.size, 1, none⟩ = some (.int .i64 0) := by simp [World.cell?, hz4]
    have g0 : W4.frozen? ⟨W.heap.size, 0, none⟩ = false := by simp [World.frozen?, hz4]
    have g1 : W4.frozen? ⟨W.heap.size, 1, none⟩ = false := by simp [World.frozen?, hz4]
    have H4 := Lib.hid (And.intro hr4 (H3.out.2.1.trans (But.of_below hb4)))
    clear hr4 hb4 hz4 k0 k1 k2 k3 f2 f3 hlt3
    go_wp2_with fail
    refine bodyPost_ret (v := .agg #[.int .i64 (s'.why : Int), .int .i64 (s'.fat : Int)]) (by simp [results, Try.results17, go_sem, c0, c1]) rfl ⟨rfl, H4.out.1.set2 (W0 := W) (Nat.le_refl _) hlt _ _, But.set2 _ _ H4.out.2 (Nat.le_refl _) _ _⟩
  · have hs' := H1.out.2.2.2.2.1
    rw [if_neg h0] at hs'
    have H3 := Lib.hid (show Rst g A c l s' W2 by rw [hs']; exact H2.out.1)
    clear hs'
    go_wp2_with fail
    refine (fault_calls g A c l s' _ H3.out).mono ?_
    rintro e W4 ⟨rfl, hb4⟩
    have hr4 := H3.out.below hb4
    have hlt3 := (Array.getElem?_eq_some_iff.1 H2.out.2.2).1
    have hz4 := (hb4.block _ hlt3).trans H2.out.2.2
    have c0 : W4.cell? ⟨W.heap.size, 0, none⟩ = some (.int .i64 0) := by simp [World.cell?, hz4]
    have c1 : W4.cell? ⟨W.heap.size, 1, none⟩ = some (.int .i64 0) := by simp [World.cell?, hz4]
    have g0 : W4.frozen? ⟨W.heap.size, 0, none⟩ = false := by simp [World.frozen?, hz4]
    have g1 : W4.frozen? ⟨W.heap.size, 1, none⟩ = false := by simp [World.frozen?, hz4]
    have H4 := Lib.hid (And.intro hr4 ((But.of_below (g := g) H2.out.2.1).trans (But.of_below hb4)))
    clear hr4 hb4 hz4 hlt3
    go_wp2_with fail
    refine bodyPost_ret (v := .agg #[.int .i64 (s'.why : Int), .int .i64 (s'.fat : Int)]) (by simp [results, Try.results17, go_sem, c0, c1]) rfl ⟨rfl, H4.out.1.set2 (W0 := W) (Nat.le_refl _) hlt _ _, But.set2 _ _ H4.out.2 (Nat.le_refl _) _ _⟩
/-- What a field's reading leaves. -/
def fieldF {α : Type} (z : α) (rd : List UInt8 → α × Nat × Nat) (l : List UInt8) (s : Rs) : α × Rs :=
  if s.why = 0 ∧ s.fat = 0 then (if (rd (l.drop s.at_)).2.2 = 0 then ((rd (l.drop s.at_)).1, ⟨s.at_ + (rd (l.drop s.at_)).2.1, 0, 0⟩) else (z, ⟨s.at_, (rd (l.drop s.at_)).2.2, s.at_⟩)) else (z, s)
/-- A number, at most so great. -/
def readF (most : Nat) (l : List UInt8) : Nat × Nat × Nat := ((long l).1, (long l).2.1, if (long l).2.2 = 0 ∧ most < (long l).1 then 5 else (long l).2.2)
/-- A byte. -/
def oneF : List UInt8 → Nat × Nat × Nat
  | [] => (0, 0, 4)
  | x :: _ => (x.toNat, 1, 0)
theorem rowD {W : World} {A : Option Addr} {l : List UInt8} (h : Row8 W A l) (n : Nat) : Row8 (W.drewN n) A l := h
theorem long_fits (l : List UInt8) : (long l).1 < 18446744073709551616 ∧ (long l).2.1 ≤ l.length ∧ (long l).2.2 ≤ 4 := by
  refine ⟨?_, ?_, longG_le4 l 0 0⟩
  · by_cases h : (long l).2.2 = 0
    · exact (long_ok l h).2.2.2.1
    · have := (longG_err l 0 0 h).1; change (long l).1 = 0 at this; omega
  · by_cases h : (long l).2.2 = 0
    · exact (long_ok l h).2.1
    · have := (longG_err l 0 0 h).2; change (long l).2.1 = 0 at this; omega
theorem one_calls (A : Option Addr) (c : Nat) (l : List UInt8) (W : World) (hr : Row8 W A l) (hm : l.length ≤ 9223372036854775807) :
    Calls Try.prog 45 #[.slice A l.length c] W fun e W' => e = .returned (.tuple #[.int .u8 ((oneF l).1 : Int), .int .i64 ((oneF l).2.1 : Int), .int .i64 ((oneF l).2.2 : Int)]) ∧ W = W' := by
  cases l with
  | nil =>
    clear hr
    go_enter Try.func45, Try.ntmps45
    go_wp2_with fail
    go_ret3
    exact ⟨rfl, rfl⟩
  | cons x xs =>
    obtain ⟨y, rfl, hc⟩ : ∃ y, A = some y ∧ ∀ i : Nat, ∀ h : i < (x :: xs).length, W.cell? (y.add i) = some (.int .u8 ((x :: xs)[i].toNat : Int)) := by
      rcases hr with h | h
      · cases h
      · exact h
    have h0 : W.cell? y = some (.int .u8 (x.toNat : Int)) := by
      have := hc 0 (by simp)
      rw [List.getElem_cons_zero] at this
      simpa [Addr.add] using this
    have hn : (((x :: xs).length : Int) == 0) = false := by rw [beq_eq_false_iff_ne, List.length_cons]; omega
    have hp : (0 : Int) < ((x :: xs).length : Int) := by rw [List.length_cons]; omega
    obtain ⟨n, hnn⟩ : ∃ n, n = (x :: xs).length := ⟨_, rfl⟩
    rw [← hnn] at hn hp ⊢
    clear hr hc hm hnn
    go_enter Try.func45, Try.ntmps45
    go_wp2_with fail
    go_ret3
    exact ⟨rfl, rfl⟩
theorem read_calls (most : Nat) (hmost : most < 18446744073709551616) (A : Option Addr) (c : Nat) (l : List UInt8) (W : World) (hr : Row8 W A l) (hm : l.length ≤ 9223372036854775807) :
    Calls Try.prog 43 #[.int .u64 (most : Int), .slice A l.length c] W fun e W' => e = .returned (.tuple #[.int .u64 ((readF most l).1 : Int), .int .i64 ((readF most l).2.1 : Int), .int .i64 ((readF most l).2.2 : Int)]) ∧ W = W' := by
  have hl := long_calls A c l W hr hm
  have hf := long_fits l
  have hR : ∀ y, y = long l → readF most l = (y.1, y.2.1, if y.2.2 = 0 ∧ most < y.1 then 5 else y.2.2) := by rintro y rfl; rfl
  obtain ⟨y, hy⟩ : ∃ y, y = long l := ⟨_, rfl⟩
  have hR := hR y hy
  rw [← hy] at hl hf
  obtain ⟨n, k, e0⟩ := y
  simp only at hl hf hR
  rw [hR]
  have G := Lib.hid hl
  clear hl hR hy hr
  by_cases h0 : e0 = 0
  · subst h0
    by_cases h1 : most < n
    · rw [if_pos ⟨rfl, h1⟩]
      go_enter Try.func43, Try.ntmps43
      go_wp2_with fail
      refine G.out.mono ?_
      rintro e W2 ⟨rfl, rfl⟩
      go_wp2_with fail
      go_ret3
      exact ⟨rfl, rfl⟩
    · rw [if_neg (fun h => h1 h.2)]
      go_enter Try.func43, Try.ntmps43
      go_wp2_with fail
      refine G.out.mono ?_
      rintro e W2 ⟨rfl, rfl⟩
      go_wp2_with fail
      go_ret3
      exact ⟨rfl, rfl⟩
  · rw [if_neg (fun h => h0 h.1)]
    have hne : ((e0 : Int) == 0) = false := by rw [beq_eq_false_iff_ne]; omega
    go_enter Try.func43, Try.ntmps43
    go_wp2_with fail
    refine G.out.mono ?_
    rintro e W2 ⟨rfl, rfl⟩
    go_wp2_with fail
    go_ret3
    exact ⟨rfl, rfl⟩
theorem read_fits (most : Nat) (l : List UInt8) : (readF most l).2.1 ≤ l.length ∧ (readF most l).2.2 ≤ 17 := by
  have h := long_fits l
  refine ⟨h.2.1, ?_⟩
  unfold readF
  simp only
  split <;> omega
theorem one_fits (l : List UInt8) : (oneF l).2.1 ≤ l.length ∧ (oneF l).2.2 ≤ 17 := by
  cases l with
  | nil => exact ⟨by decide, by decide⟩
  | cons x xs => exact ⟨by simp [oneF], by simp [oneF]⟩
set_option maxHeartbeats 1000000 in
set_option maxRecDepth 100000 in
theorem field64_calls (g : Nat) (A : Option Addr) (c : Nat) (l : List UInt8) (s : Rs) (most : Nat) (hmost : most < 18446744073709551616) (W : World) (h : Rst g A c l s W) :
    Calls Try.prog 42 #[.pointer (some ⟨g, 0, none⟩), .func (.func 43) #[.int .u64 (most : Int)] #[]] W fun e W' => e = .returned (.int .u64 ((fieldF 0 (readF most) l s).1 : Int)) ∧ Rst g A c l (fieldF 0 (readF most) l s).2 W' ∧ But g W W' := by
  obtain ⟨k0, k1, k2, k3⟩ := h.cells
  have hat := h.at_
  have hcap := h.cap
  have hbig := h.big
  obtain ⟨a, y, f⟩ := s
  simp only at k1 k2 k3 hat
  by_cases hz : y = 0 ∧ f = 0
  · obtain ⟨rfl, rfl⟩ := hz
    obtain ⟨A2, hsl, hrow⟩ := sl_from (P := Try.prog) (t := 25) Try.underlying25 size8 A l.length c a (a : Int) rfl hat
    have hr2 := hrow W l rfl hcap h.row
    have hln : l.length - a = (l.drop a).length := by rw [List.length_drop]
    have hrd := fun W' (hr : Row8 W' A2 (l.drop a)) => read_calls most hmost A2 (c - a) (l.drop a) W' hr (by rw [List.length_drop]; omega)
    have hk : (readF most (l.drop a)).2.1 ≤ l.length - a := by rw [hln]; exact (read_fits most (l.drop a)).1
    have he : (readF most (l.drop a)).2.2 ≤ 17 := (read_fits most (l.drop a)).2
    have hF : fieldF 0 (readF most) l ⟨a, 0, 0⟩ = if (readF most (l.drop a)).2.2 = 0 then ((readF most (l.drop a)).1, ⟨a + (readF most (l.drop a)).2.1, 0, 0⟩) else (0, ⟨a, (readF most (l.drop a)).2.2, a⟩) := by
      unfold fieldF; rw [if_pos ⟨rfl, rfl⟩]
    obtain ⟨R, hR⟩ : ∃ R, R = readF most (l.drop a) := ⟨_, rfl⟩
    rw [← hR] at hk he hF
    simp only [← hR] at hrd
    rw [← hln] at hrd
    obtain ⟨n, k, e0⟩ := R
    simp only at hk he hF hrd
    rw [hF]
    have G := Lib.hid (And.intro h.drew (And.intro (show Row8 W.drew A2 (l.drop a) from hr2) hrd))
    clear hF hR hrow hr2 hrd h hcap hbig hln
    have bA : (0 : Int) ≤ (a : Int) := by omega
    have bB : (a : Int) ≤ (l.length : Int) := by omega
    go_enter Try.func42, Try.ntmps42
    go_wp2_with fail
    go_region_held3 (fun W' => W'.cell? ⟨g, 0, none⟩ = some (.slice A l.length c) ∧ W'.cell? ⟨g, 1, none⟩ = some (.int .i64 (a : Int))) (first | exact ⟨k0, k1⟩) (first | (go_at_call 43; ((with_reducible refine (G.out.2.2 _ G.out.2.1).mono ?_); rintro e w' ⟨rfl, rfl⟩)))
    have k0' : W.drew.cell? ⟨g, 0, none⟩ = some (.slice A l.length c) := k0
    have k1' : W.drew.cell? ⟨g, 1, none⟩ = some (.int .i64 (a : Int)) := k1
    have k2' : W.drew.cell? ⟨g, 2, none⟩ = some (.int .i64 0) := k2
    have k3' : W.drew.cell? ⟨g, 3, none⟩ = some (.int .i64 0) := k3
    have f1 := G.out.1.free 1
    have f2 := G.out.1.free 2
    have f3 := G.out.1.free 3
    have hbut : But g W W.drew := But.of_below (Below.refl _ _).drew
    clear k0 k1 k2 k3 hsl
    generalize W.drew = W1 at G k0' k1' k2' k3' f1 f2 f3 hbut ⊢
    by_cases h0 : e0 = 0
    · subst h0
      have hw : wrap64 ((a : Int) + (k : Int)) = ((a + k : Nat) : Int) := by have := G.out.1.cap; have := G.out.1.big; unfold wrap64; omega
      have hb1 : (a : Int) + (k : Int) ≤ 9223372036854775807 := by have := G.out.1.cap; have := G.out.1.big; omega
      obtain ⟨hr3, hb3⟩ := G.out.1.moved (a + k) (by omega)
      have H3 := Lib.hid (And.intro hr3 hb3)
      clear hr3 hb3
      go_wp2_with fail
      go_ret
      have h3 := H3.out
      rw [Int.natCast_add] at h3
      exact ⟨rfl, h3.1, hbut.trans h3.2⟩
    · have hne : ((e0 : Int) != 0) = true := by rw [bne_iff_ne]; omega
      obtain ⟨hr3, hb3⟩ := G.out.1.faulted e0 a (by omega) hat
      have H3 := Lib.hid (And.intro hr3 hb3)
      clear hr3 hb3
      go_wp2_with fail
      go_ret
      exact ⟨rfl, H3.out.1, hbut.trans H3.out.2⟩
  · have hF : fieldF 0 (readF most) l ⟨a, y, f⟩ = (0, ⟨a, y, f⟩) := by unfold fieldF; rw [if_neg hz]
    rw [hF]
    have G := Lib.hid h
    clear h hF
    by_cases hy : y = 0
    · have hf : ((f : Int) == 0) = false := by rw [beq_eq_false_iff_ne]; omega
      subst hy
      go_enter Try.func42, Try.ntmps42
      go_wp2_with fail
      go_ret
      exact ⟨rfl, G.out, But.of_below (Below.refl _ _)⟩
    · have hyy : ((y : Int) == 0) = false := by rw [beq_eq_false_iff_ne]; omega
      go_enter Try.func42, Try.ntmps42
      go_wp2_with fail
      go_ret
      exact ⟨rfl, G.out, But.of_below (Below.refl _ _)⟩
set_option maxHeartbeats 1000000 in
set_option maxRecDepth 100000 in
theorem field8_calls (g : Nat) (A : Option Addr) (c : Nat) (l : List UInt8) (s : Rs) (W : World) (h : Rst g A c l s W) :
    Calls Try.prog 44 #[.pointer (some ⟨g, 0, none⟩), .func (.func 45) #[] #[]] W fun e W' => e = .returned (.int .u8 ((fieldF 0 (oneF) l s).1 : Int)) ∧ Rst g A c l (fieldF 0 (oneF) l s).2 W' ∧ But g W W' := by
  obtain ⟨k0, k1, k2, k3⟩ := h.cells
  have hat := h.at_
  have hcap := h.cap
  have hbig := h.big
  obtain ⟨a, y, f⟩ := s
  simp only at k1 k2 k3 hat
  by_cases hz : y = 0 ∧ f = 0
  · obtain ⟨rfl, rfl⟩ := hz
    obtain ⟨A2, hsl, hrow⟩ := sl_from (P := Try.prog) (t := 25) Try.underlying25 size8 A l.length c a (a : Int) rfl hat
    have hr2 := hrow W l rfl hcap h.row
    have hln : l.length - a = (l.drop a).length := by rw [List.length_drop]
    have hrd := fun W' (hr : Row8 W' A2 (l.drop a)) => one_calls A2 (c - a) (l.drop a) W' hr (by rw [List.length_drop]; omega)
    have hk : (oneF (l.drop a)).2.1 ≤ l.length - a := by rw [hln]; exact (one_fits (l.drop a)).1
    have he : (oneF (l.drop a)).2.2 ≤ 17 := (one_fits (l.drop a)).2
    have hF : fieldF 0 (oneF) l ⟨a, 0, 0⟩ = if (oneF (l.drop a)).2.2 = 0 then ((oneF (l.drop a)).1, ⟨a + (oneF (l.drop a)).2.1, 0, 0⟩) else (0, ⟨a, (oneF (l.drop a)).2.2, a⟩) := by
      unfold fieldF; rw [if_pos ⟨rfl, rfl⟩]
    obtain ⟨R, hR⟩ : ∃ R, R = oneF (l.drop a) := ⟨_, rfl⟩
    rw [← hR] at hk he hF
    simp only [← hR] at hrd
    rw [← hln] at hrd
    obtain ⟨n, k, e0⟩ := R
    simp only at hk he hF hrd
    rw [hF]
    have G := Lib.hid (And.intro h.drew (And.intro (show Row8 W.drew A2 (l.drop a) from hr2) hrd))
    clear hF hR hrow hr2 hrd h hcap hbig hln
    have bA : (0 : Int) ≤ (a : Int) := by omega
    have bB : (a : Int) ≤ (l.length : Int) := by omega
    go_enter Try.func44, Try.ntmps44
    go_wp2_with fail
    go_region_held3 (fun W' => W'.cell? ⟨g, 0, none⟩ = some (.slice A l.length c) ∧ W'.cell? ⟨g, 1, none⟩ = some (.int .i64 (a : Int))) (first | exact ⟨k0, k1⟩) (first | (go_at_call 45; ((with_reducible refine (G.out.2.2 _ G.out.2.1).mono ?_); rintro e w' ⟨rfl, rfl⟩)))
    have k0' : W.drew.cell? ⟨g, 0, none⟩ = some (.slice A l.length c) := k0
    have k1' : W.drew.cell? ⟨g, 1, none⟩ = some (.int .i64 (a : Int)) := k1
    have k2' : W.drew.cell? ⟨g, 2, none⟩ = some (.int .i64 0) := k2
    have k3' : W.drew.cell? ⟨g, 3, none⟩ = some (.int .i64 0) := k3
    have f1 := G.out.1.free 1
    have f2 := G.out.1.free 2
    have f3 := G.out.1.free 3
    have hbut : But g W W.drew := But.of_below (Below.refl _ _).drew
    clear k0 k1 k2 k3 hsl
    generalize W.drew = W1 at G k0' k1' k2' k3' f1 f2 f3 hbut ⊢
    by_cases h0 : e0 = 0
    · subst h0
      have hw : wrap64 ((a : Int) + (k : Int)) = ((a + k : Nat) : Int) := by have := G.out.1.cap; have := G.out.1.big; unfold wrap64; omega
      have hb1 : (a : Int) + (k : Int) ≤ 9223372036854775807 := by have := G.out.1.cap; have := G.out.1.big; omega
      obtain ⟨hr3, hb3⟩ := G.out.1.moved (a + k) (by omega)
      have H3 := Lib.hid (And.intro hr3 hb3)
      clear hr3 hb3
      go_wp2_with fail
      go_ret
      have h3 := H3.out
      rw [Int.natCast_add] at h3
      exact ⟨rfl, h3.1, hbut.trans h3.2⟩
    · have hne : ((e0 : Int) != 0) = true := by rw [bne_iff_ne]; omega
      obtain ⟨hr3, hb3⟩ := G.out.1.faulted e0 a (by omega) hat
      have H3 := Lib.hid (And.intro hr3 hb3)
      clear hr3 hb3
      go_wp2_with fail
      go_ret
      exact ⟨rfl, H3.out.1, hbut.trans H3.out.2⟩
  · have hF : fieldF 0 (oneF) l ⟨a, y, f⟩ = (0, ⟨a, y, f⟩) := by unfold fieldF; rw [if_neg hz]
    rw [hF]
    have G := Lib.hid h
    clear h hF
    by_cases hy : y = 0
    · have hf : ((f : Int) == 0) = false := by rw [beq_eq_false_iff_ne]; omega
      subst hy
      go_enter Try.func44, Try.ntmps44
      go_wp2_with fail
      go_ret
      exact ⟨rfl, G.out, But.of_below (Below.refl _ _)⟩
    · have hyy : ((y : Int) == 0) = false := by rw [beq_eq_false_iff_ne]; omega
      go_enter Try.func44, Try.ntmps44
      go_wp2_with fail
      go_ret
      exact ⟨rfl, G.out, But.of_below (Below.refl _ _)⟩
theorem rnum_calls (g : Nat) (A : Option Addr) (c : Nat) (l : List UInt8) (s : Rs) (most : Nat) (hmost : most < 18446744073709551616) (W : World) (h : Rst g A c l s W) :
    Calls Try.prog 19 #[.pointer (some ⟨g, 0, none⟩), .int .u64 (most : Int)] W fun e W' => e = .returned (.int .u64 ((fieldF 0 (readF most) l s).1 : Int)) ∧ Rst g A c l (fieldF 0 (readF most) l s).2 W' ∧ But g W W' := by
  have hc := field64_calls g A c l s most hmost W h
  obtain ⟨R, hR⟩ : ∃ R, R = fieldF 0 (readF most) l s := ⟨_, rfl⟩
  rw [← hR] at hc ⊢
  have G := Lib.hid hc
  clear hc hR h
  go_enter Try.func19, Try.ntmps19
  go_wp2_with fail
  refine G.out.mono ?_
  rintro e W2 ⟨rfl, hr, hb⟩
  have H := Lib.hid (And.intro hr hb)
  clear hr hb
  go_wp2_with fail
  go_ret
  exact ⟨rfl, H.out.1, H.out.2⟩
theorem rbyte_calls (g : Nat) (A : Option Addr) (c : Nat) (l : List UInt8) (s : Rs) (W : World) (h : Rst g A c l s W) :
    Calls Try.prog 20 #[.pointer (some ⟨g, 0, none⟩)] W fun e W' => e = .returned (.int .u8 ((fieldF 0 oneF l s).1 : Int)) ∧ Rst g A c l (fieldF 0 oneF l s).2 W' ∧ But g W W' := by
  have hc := field8_calls g A c l s W h
  obtain ⟨R, hR⟩ : ∃ R, R = fieldF 0 oneF l s := ⟨_, rfl⟩
  rw [← hR] at hc ⊢
  have G := Lib.hid hc
  clear hc hR h
  go_enter Try.func20, Try.ntmps20
  go_wp2_with fail
  refine G.out.mono ?_
  rintro e W2 ⟨rfl, hr, hb⟩
  have H := Lib.hid (And.intro hr hb)
  clear hr hb
  go_wp2_with fail
  go_ret
  exact ⟨rfl, H.out.1, H.out.2⟩
end Go.Proofs.Ytinilglljjffjaa.Cd
