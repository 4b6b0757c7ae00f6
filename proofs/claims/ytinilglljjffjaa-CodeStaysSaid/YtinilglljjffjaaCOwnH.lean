/- Writers and readers behind another one's turn; the program's New, and that its row is new. -/
import Derived.Test.YtinilglljjffjaaCWide
import Derived.Test.YtinilglljjffjaaCOne
import Derived.Test.YtinilglljjffjaaCNil
namespace Go.Proofs.Ytinilglljjffjaa.Cd
set_option linter.unusedVariables false
set_option linter.unusedSimpArgs false
open Go.RowKit
open Go.Proofs.Ytinilglljjffjaa.Num

theorem Wst.turn {B T g g2 : Nat} {v v2 v2' : Value} {l : List UInt8} {W W' : World} (h : Wst B T g v l W) (ht : Turn g2 v2 v2' W W') (hg : g ≠ g2) (h1 : v2.ownBlock ≠ some g) (h2 : ∀ k, v.ownBlock = some k → k ≠ g2 ∧ v2.ownBlock ≠ some k) : Wst B T g v l W' := by
  refine ⟨(ht.keep g h.box.lt hg h1).trans h.box, ?_⟩
  rcases h.own with ⟨h0, h1 | ⟨k, cap, cur, hv, hk, hh, hrest⟩⟩
  · exact ⟨h0, .inl h1⟩
  · have hk2 := h2 k (by rw [hv]; rfl)
    exact ⟨h0, .inr ⟨k, cap, cur, hv, hk, (ht.keep k (Array.getElem?_eq_some_iff.1 hh).1 hk2.1 hk2.2).trans hh, hrest⟩⟩
theorem Rst.turn {g g2 : Nat} {v2 v2' : Value} {A : Option Addr} {c : Nat} {l : List UInt8} {s : Rs} {W W' : World} (h : Rst g A c l s W) (ht : Turn g2 v2 v2' W W') (hg : g ≠ g2) (h1 : v2.ownBlock ≠ some g) (h2 : ∀ x, A = some x → x.block ≠ g2 ∧ v2.ownBlock ≠ some x.block) : Rst g A c l s W' :=
  ⟨(ht.keep g (Array.getElem?_eq_some_iff.1 h.box).1 hg h1).trans h.box, Row8.turn h.row ht h2, h.cap, h.big, h.nul, h.far, h.at_, h.fat, h.why⟩
theorem Two.turn {B g1 g2 g : Nat} {v1 v2 v v' : Value} {l1 l2 : List UInt8} {W W' : World} (h : Two B g1 g2 v1 v2 l1 l2 W) (ht : Turn g v v' W W') (a1 : g1 ≠ g) (a2 : g2 ≠ g) (b1 : v.ownBlock ≠ some g1) (b2 : v.ownBlock ≠ some g2) (c1 : ∀ k, v1.ownBlock = some k → k ≠ g ∧ v.ownBlock ≠ some k) (c2 : ∀ k, v2.ownBlock = some k → k ≠ g ∧ v.ownBlock ≠ some k) : Two B g1 g2 v1 v2 l1 l2 W' :=
  ⟨h.w1.turn ht a1 b1 c1, h.w2.turn ht a2 b2 c2, h.ne, h.apart⟩
theorem Two.new2 (w : World) : Two w.heap.size (w.heap.size + 1) w.heap.size (.slice none 0 0) (.slice none 0 0) [] [] ((w.alloc (.cells #[.slice none 0 0] 29)).alloc (.cells #[.slice none 0 0] 27)) := by
  have h1 : Boxed (w.alloc (.cells #[.slice none 0 0] 29)) w.heap.size 29 (.slice none 0 0) := Boxed.new w _ _
  have h2 := Boxed.new (w.alloc (.cells #[.slice none 0 0] 29)) 27 (.slice none 0 0)
  rw [World.size_alloc] at h2
  exact ⟨⟨h2, Own8.nil _ _ _⟩, ⟨((below_alloc1 _ _).block _ h1.lt).trans h1, Own8.nil _ _ _⟩, by omega, fun k hk => by simp [Value.ownBlock] at hk⟩
theorem incr8 (x : UInt8) : ((x.toNat : Int) + 1) % 256 = ((x + 1).toNat : Int) := by
  rw [UInt8.toNat_add]
  show ((x.toNat : Int) + 1) % 256 = (((x.toNat + 1) % 256 : Nat) : Int)
  omega
set_option maxRecDepth 100000 in
theorem newX_calls (A : Option Addr) (c : Nat) (l : List UInt8) (W : World) (hr : Row8 W A l) (hA : A = none → c = 0) (hlen : l.length ≤ 150000000000000) :
    Calls Try.prog 14 #[.slice A l.length c] W fun e W' => ∃ g A' c', e = .returned (.pointer (some ⟨g, 0, none⟩)) ∧ Rst g A' c' l ⟨0, 0, 0⟩ W' ∧ Below W.heap.size W W' ∧ W.heap.size ≤ g ∧ ∀ x, A' = some x → W.heap.size ≤ x.block := by
  have G := Lib.hid (cloneW_calls A c l W hr hA hlen)
  clear hr hA hlen
  go_enter Try.func14, Try.ntmps14
  go_wp2_with fail
  refine G.out.mono ?_
  rintro e W2 ⟨v2, rfl, ho, hb⟩
  have hlt := ho.lt
  obtain ⟨A2, c2, rfl, hr2, hc2, hm2, hn2⟩ := ho.row
  have hnew : ∀ x, A2 = some x → W.heap.size ≤ x.block := fun x hx => (hlt x.block (by
      subst hx
      rcases ho.2 with ⟨h, _⟩ | ⟨g, cap, cur, h, _⟩
      · cases h
      · cases h; rfl)).1
  have hst : Rst W2.heap.size A2 c2 l ⟨0, 0, 0⟩ (W2.alloc (.cells #[.slice A2 l.length c2, .int .i64 0, .int .i64 0, .int .i64 0] 68)) :=
    ⟨heap_alloc_new _ _, hr2.below (below_alloc1 _ _), hc2, hm2, hn2, fun x hx => (hlt x.block (by
      subst hx
      rcases ho.2 with ⟨h, _⟩ | ⟨g, cap, cur, h, _⟩
      · cases h
      · cases h; rfl)).2, by simp, by simp, by simp⟩
  have H := Lib.hid (And.intro hst (And.intro (hb.alloc hb.size (.cells #[.slice A2 l.length c2, .int .i64 0, .int .i64 0, .int .i64 0] 68)) (And.intro hb.size hnew)))
  clear ho hb hlt hr2 hst hnew
  go_wp2_with fail
  go_ret
  exact ⟨_, _, _, rfl, H.out.1, H.out.2.1, H.out.2.2.1, H.out.2.2.2⟩
/-- What the law has in memory. -/
structure OwnSt (W : World) (B g1 g2 : Nat) (v1 v2 : Value) (m1 m2 : List UInt8) (f : Fd) (gr : Nat) (A : Option Addr) (c : Nat) (lb : List UInt8) (s : Rs) (w : World) : Prop where
  fld : w.heap[W.heap.size]? = some (.cells f.cells 33 (0, 0))
  bel : Below W.heap.size W w
  two : Two B g1 g2 v1 v2 m1 m2 w
  rst : Rst gr A c lb s w
theorem OwnSt.but {W : World} {B g1 g2 : Nat} {v1 v2 : Value} {m1 m2 : List UInt8} {f : Fd} {gr : Nat} {A : Option Addr} {c : Nat} {lb : List UInt8} {s : Rs} {w w' : World} (h : OwnSt W B g1 g2 v1 v2 m1 m2 f gr A c lb s w) (g : Nat) (ht : But g w w') (h0 : W.heap.size < g) (h1 : g1 ≠ g) (h2 : g2 ≠ g) (o1 : ∀ k, v1.ownBlock = some k → k ≠ g) (o2 : ∀ k, v2.ownBlock = some k → k ≠ g) (hr : gr ≠ g) (ha : ∀ x, A = some x → x.block ≠ g) : OwnSt W B g1 g2 v1 v2 m1 m2 f gr A c lb s w' :=
  ⟨ht.heap h.fld (by omega), h.bel.trans (ht.below (by omega) h.bel.size), h.two.turn ht h1 h2 (by simp [Value.ownBlock]) (by simp [Value.ownBlock]) (fun k hk => ⟨o1 k hk, by simp [Value.ownBlock]⟩) (fun k hk => ⟨o2 k hk, by simp [Value.ownBlock]⟩), h.rst.turn ht hr (by simp [Value.ownBlock]) (fun x hx => ⟨ha x hx, by simp [Value.ownBlock]⟩)⟩
theorem OwnSt.below {W : World} {B g1 g2 : Nat} {v1 v2 : Value} {m1 m2 : List UInt8} {f : Fd} {gr : Nat} {A : Option Addr} {c : Nat} {lb : List UInt8} {s : Rs} {w w' : World} (h : OwnSt W B g1 g2 v1 v2 m1 m2 f gr A c lb s w) (hb : Below w.heap.size w w') : OwnSt W B g1 g2 v1 v2 m1 m2 f gr A c lb s w' :=
  ⟨(hb.block _ (Array.getElem?_eq_some_iff.1 h.fld).1).trans h.fld, h.bel.trans (hb.mono h.bel.size), h.two.below hb, h.rst.below hb⟩
theorem OwnSt.snd {W : World} {B g1 g2 : Nat} {v1 v2 v2' : Value} {m1 m2 m2' : List UInt8} {f : Fd} {gr : Nat} {A : Option Addr} {c : Nat} {lb : List UInt8} {s : Rs} {w w' : World} (h : OwnSt W B g1 g2 v1 v2 m1 m2 f gr A c lb s w) (hw : Wst B 29 g2 v2' m2' w') (ht : Turn g2 v2 v2' w w') (hB : W.heap.size < B) (hB2 : B ≤ g2) (hr : gr ≠ g2) (hro : ∀ k, v2.ownBlock = some k → k ≠ gr) (ha : ∀ x, A = some x → x.block ≠ g2 ∧ v2.ownBlock ≠ some x.block) : OwnSt W B g1 g2 v1 v2' m1 m2' f gr A c lb s w' :=
  ⟨turn_heap' ht h.fld (by omega) (fun e => by have := (h.two.w2.own.lt _ e).1; omega), h.bel.trans ((ht.below h.two.w2 hB2).mono (by omega)), h.two.snd hw ht, h.rst.turn ht hr (fun e => hro _ e rfl) ha⟩
theorem OwnSt.read {W : World} {B g1 g2 : Nat} {v1 v2 : Value} {m1 m2 : List UInt8} {f : Fd} {gr : Nat} {A : Option Addr} {c : Nat} {lb : List UInt8} {s s' : Rs} {w w' : World} (h : OwnSt W B g1 g2 v1 v2 m1 m2 f gr A c lb s w) (hw : Rst gr A c lb s' w') (ht : But gr w w') (h0 : W.heap.size < gr) (h1 : g1 ≠ gr) (h2 : g2 ≠ gr) (o1 : ∀ k, v1.ownBlock = some k → k ≠ gr) (o2 : ∀ k, v2.ownBlock = some k → k ≠ gr) : OwnSt W B g1 g2 v1 v2 m1 m2 f gr A c lb s' w' :=
  ⟨ht.heap h.fld (by omega), h.bel.trans (ht.below (by omega) h.bel.size), h.two.turn ht h1 h2 (by simp [Value.ownBlock]) (by simp [Value.ownBlock]) (fun k hk => ⟨o1 k hk, by simp [Value.ownBlock]⟩) (fun k hk => ⟨o2 k hk, by simp [Value.ownBlock]⟩), hw⟩
/-- What the law looks at in the end. -/
structure OwnZ (W : World) (B g1 : Nat) (v1 : Value) (m : List UInt8) (gr : Nat) (A : Option Addr) (c : Nat) (lb : List UInt8) (s : Rs) (Bu gu : Nat) (vu : Value) (w : World) : Prop where
  rst : Rst gr A c lb s w
  bel : Below W.heap.size W w
  w1 : Wst B 27 g1 v1 m w
  wu : Wst Bu 29 gu vu m w
theorem OwnZ.below {W : World} {B g1 : Nat} {v1 : Value} {m : List UInt8} {gr : Nat} {A : Option Addr} {c : Nat} {lb : List UInt8} {s : Rs} {Bu gu : Nat} {vu : Value} {w w' : World} (h : OwnZ W B g1 v1 m gr A c lb s Bu gu vu w) (hb : Below w.heap.size w w') : OwnZ W B g1 v1 m gr A c lb s Bu gu vu w' :=
  ⟨h.rst.below hb, h.bel.trans (hb.mono h.bel.size), h.w1.below hb, h.wu.below hb⟩
theorem OwnZ.read {W : World} {B g1 : Nat} {v1 : Value} {m : List UInt8} {gr : Nat} {A : Option Addr} {c : Nat} {lb : List UInt8} {s s' : Rs} {Bu gu : Nat} {vu : Value} {w w' : World} (h : OwnZ W B g1 v1 m gr A c lb s Bu gu vu w) (hw : Rst gr A c lb s' w') (ht : But gr w w') (h0 : W.heap.size < gr) (h1 : g1 ≠ gr) (h2 : gu ≠ gr) (o1 : ∀ k, v1.ownBlock = some k → k ≠ gr) (hB : gr < Bu) : OwnZ W B g1 v1 m gr A c lb s' Bu gu vu w' :=
  ⟨hw, h.bel.trans (ht.below (by omega) h.bel.size), h.w1.turn ht h1 (by simp [Value.ownBlock]) (fun k hk => ⟨o1 k hk, by simp [Value.ownBlock]⟩), h.wu.turn ht h2 (by simp [Value.ownBlock]) (fun k hk => ⟨by have := (h.wu.own.lt k hk).1; omega, by simp [Value.ownBlock]⟩)⟩
end Go.Proofs.Ytinilglljjffjaa.Cd
