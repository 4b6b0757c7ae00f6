/- The walk of the law's write: a field, with both writers. -/
import Derived.Test.YtinilglljjffjaaCStr
import Derived.Test.YtinilglljjffjaaCKey
namespace Go.Proofs.Ytinilglljjffjaa.Cd
set_option linter.unusedVariables false
set_option linter.unusedSimpArgs false
open Go.RowKit
open Go.Proofs.Ytinilglljjffjaa.Num

/-- A field. -/
structure Fd where
  k : Nat
  n : Nat
  s : List UInt8
  most : Int
structure Fd.Ok (f : Fd) : Prop where
  k : f.k < 256
  n : f.n < 18446744073709551616
  m0 : -9223372036854775808 ≤ f.most
  m1 : f.most ≤ 9223372036854775807
  s : f.s.length ≤ 9223372036854775807
def Fd.cells (f : Fd) : Array Value := #[.int .u8 (f.k : Int), .int .u64 (f.n : Int), .string (txt f.s), .int .i64 f.most]
/-- What is written of a field. -/
def encF (f : Fd) : List UInt8 := match f.k % 5 with
  | 0 => short f.n
  | 1 => [UInt8.ofNat f.n]
  | 2 => [tF (decide (f.n % 2 = 1))]
  | 3 => textF f.s
  | _ => keyOf f.s
/-- Two writers apart. -/
structure Two (B g1 g2 : Nat) (v1 v2 : Value) (l1 l2 : List UInt8) (W : World) : Prop where
  w1 : Wst B 27 g1 v1 l1 W
  w2 : Wst B 29 g2 v2 l2 W
  ne : g1 ≠ g2
  apart : ∀ k, v1.ownBlock = some k → v2.ownBlock ≠ some k
theorem Two.below {B g1 g2 : Nat} {v1 v2 : Value} {l1 l2 : List UInt8} {W W' : World} (h : Two B g1 g2 v1 v2 l1 l2 W) (hb : Below W.heap.size W W') : Two B g1 g2 v1 v2 l1 l2 W' := ⟨h.w1.below hb, h.w2.below hb, h.ne, h.apart⟩
theorem Two.fst {B g1 g2 : Nat} {v1 v1' v2 : Value} {l1 l1' l2 : List UInt8} {W W' : World} (h : Two B g1 g2 v1 v2 l1 l2 W) (hw : Wst B 27 g1 v1' l1' W') (ht : Turn g1 v1 v1' W W') : Two B g1 g2 v1' v2 l1' l2 W' := by
  refine ⟨hw, h.w2.other h.w1 ht (fun e => h.ne e.symm) (by decide) (by decide) (fun k h2 h1 => h.apart k h1 h2), h.ne, fun k hk => ?_⟩
  rcases ht.own k hk with h1 | h1
  · exact h.apart k h1
  · intro e
    have := (h.w2.own.lt k e).2
    omega
theorem Two.snd {B g1 g2 : Nat} {v1 v2 v2' : Value} {l1 l2 l2' : List UInt8} {W W' : World} (h : Two B g1 g2 v1 v2 l1 l2 W) (hw : Wst B 29 g2 v2' l2' W') (ht : Turn g2 v2 v2' W W') : Two B g1 g2 v1 v2' l1 l2' W' := by
  refine ⟨h.w1.other h.w2 ht h.ne (by decide) (by decide) (fun k h1 => h.apart k h1), hw, h.ne, fun k hk e => ?_⟩
  rcases ht.own k e with h1 | h1
  · exact h.apart k hk h1
  · have := (h.w1.own.lt k hk).2
    omega
theorem par_nat (n : Nat) : ((n : Int) % 2 == 1) = decide (n % 2 = 1) := by
  by_cases h : n % 2 = 1
  · rw [decide_eq_true h, beq_iff_eq]; omega
  · rw [decide_eq_false h, beq_eq_false_iff_ne]; omega
theorem turn_heap' {g : Nat} {v v' : Value} {W W' : World} (h : Turn g v v' W W') {k : Nat} {o : Obj} (hk : W.heap[k]? = some o) (hg : k ≠ g) (hv : v.ownBlock ≠ some k) : W'.heap[k]? = some o :=
  (h.keep k (Array.getElem?_eq_some_iff.1 hk).1 hg hv).trans hk
theorem fd_cells {W : World} {b : Nat} {f : Fd} (h : W.heap[b]? = some (.cells f.cells 33 (0, 0))) : W.cell? ⟨b, 0, none⟩ = some (.int .u8 (f.k : Int)) ∧ W.cell? ⟨b, 1, none⟩ = some (.int .u64 (f.n : Int)) ∧ W.cell? ⟨b, 2, none⟩ = some (.string (txt f.s)) ∧ W.cell? ⟨b, 3, none⟩ = some (.int .i64 f.most) := by
  simp [World.cell?, h, Fd.cells]
set_option maxHeartbeats 4000000 in
set_option maxRecDepth 100000 in
theorem write_calls (B g1 g2 : Nat) (v1 v2 : Value) (l1 l2 : List UInt8) (f : Fd) (hok : f.Ok) (W : World) (h : Two B g1 g2 v1 v2 l1 l2 W) (hB1 : B ≤ g1) (hB2 : B ≤ g2) (hBW : B ≤ W.heap.size) (hlen : l1.length + f.s.length + 2000 ≤ 140737488355328 ∧ l2.length + f.s.length + 2000 ≤ 140737488355328) :
    Calls Try.prog 11 #[.pointer (some ⟨g1, 0, none⟩), .pointer (some ⟨g2, 0, none⟩), .agg f.cells] W fun e W' => e = .returned (.tuple #[]) ∧ ∃ v1' v2', Two B g1 g2 v1' v2' (l1 ++ encF f) (l2 ++ encF f) W' ∧ Below B W W' := by
  have hb : Below W.heap.size W (W.alloc (.cells #[.int .u8 (f.k : Int), .int .u64 (f.n : Int), .string (txt f.s), .int .i64 f.most] 33)) := below_alloc1 _ _
  have hx : (W.alloc (.cells #[.int .u8 (f.k : Int), .int .u64 (f.n : Int), .string (txt f.s), .int .i64 f.most] 33)).heap[W.heap.size]? = some (.cells f.cells 33 (0, 0)) := heap_alloc_new _ _
  have hvo : ∀ k, W.heap.size ≤ k → v1.ownBlock ≠ some k := fun k hk e => by have := (h.w1.own.lt k e).2; omega
  have hg1 := h.w1.box.lt
  have hg2 := h.w2.box.lt
  obtain ⟨k0, k1, k2, k3⟩ := fd_cells hx
  have G := Lib.hid (And.intro (h.below hb) (And.intro hb (And.intro hx (And.intro hvo hlen))))
  clear h hb hx hvo hlen
  unfold Fd.cells
  have hj5 : f.k % 5 = 0 ∨ f.k % 5 = 1 ∨ f.k % 5 = 2 ∨ f.k % 5 = 3 ∨ f.k % 5 = 4 := by omega
  rcases hj5 with hj | hj | hj | hj | hj
  · have j1 : (f.k : Int).tmod 5 = 0 := by rw [Int.tmod_eq_emod_of_nonneg (by omega)]; omega
    have j2 : (f.k : Int) % 5 = 0 := by omega
    have he : encF f = short f.n := by simp only [encF, hj]
    rw [he]
    
    clear he hj
    go_enter Try.func11, Try.ntmps11
    go_wp2_with fail
    generalize W.alloc (.cells #[.int .u8 (f.k : Int), .int .u64 (f.n : Int), .string (txt f.s), .int .i64 f.most] 33) = W0 at G k0 k1 k2 k3 ⊢
    refine (num_calls B g1 v1 l1 f.n hok.n W0 G.out.1.w1 hB1 (by have := G.out.2.2.2.2.1; omega)).mono ?_
    rintro e W1 ⟨rfl, v1', hw1, ht1⟩
    have hbx := turn_heap' ht1 G.out.2.2.1 (by omega) (G.out.2.2.2.1 _ (by omega))
    obtain ⟨k0', k1', k2', k3'⟩ := fd_cells hbx
    have H1 := Lib.hid (And.intro (G.out.1.fst hw1 ht1) (ht1.below G.out.1.w1 hB1))
    have hs1 := ht1.size
    clear hw1 ht1 hbx k0 k1 k2 k3
    go_wp2_with fail
    refine (refnum_calls B g2 v2 l2 f.n hok.n W1 H1.out.1.w2 hB2 (by have := G.out.2.2.2.2.2; omega)).mono ?_
    rintro e W2 ⟨rfl, v2', hw2, ht2⟩
    have H2 := Lib.hid (And.intro (H1.out.1.snd hw2 ht2) (H1.out.2.trans (ht2.below H1.out.1.w2 hB2)))
    clear hw2 ht2
    go_wp2_with fail
    go_end0
    exact ⟨rfl, v1', v2', H2.out.1, (G.out.2.1.mono hBW).trans H2.out.2⟩
  · have j1 : (f.k : Int).tmod 5 = 1 := by rw [Int.tmod_eq_emod_of_nonneg (by omega)]; omega
    have j2 : (f.k : Int) % 5 = 1 := by omega
    have he : encF f = [UInt8.ofNat f.n] := by simp only [encF, hj]
    rw [he]
    have e8 : (f.n : Int) % 256 = ((UInt8.ofNat f.n).toNat : Int) := by rw [UInt8.toNat_ofNat']; omega
    have E8 := Lib.hid e8
    clear e8
    clear he hj
    go_enter Try.func11, Try.ntmps11
    go_wp2_with fail
    generalize W.alloc (.cells #[.int .u8 (f.k : Int), .int .u64 (f.n : Int), .string (txt f.s), .int .i64 f.most] 33) = W0 at G k0 k1 k2 k3 ⊢
    rw [E8.out]
    refine (byte_calls B g1 v1 l1 (UInt8.ofNat f.n) W0 G.out.1.w1 hB1 (by have := G.out.2.2.2.2.1; omega)).mono ?_
    rintro e W1 ⟨rfl, v1', hw1, ht1⟩
    have hbx := turn_heap' ht1 G.out.2.2.1 (by omega) (G.out.2.2.2.1 _ (by omega))
    obtain ⟨k0', k1', k2', k3'⟩ := fd_cells hbx
    have H1 := Lib.hid (And.intro (G.out.1.fst hw1 ht1) (ht1.below G.out.1.w1 hB1))
    have hs1 := ht1.size
    clear hw1 ht1 hbx k0 k1 k2 k3
    go_wp2_with fail
    rw [E8.out]
    refine (refbyte_calls B g2 v2 l2 (UInt8.ofNat f.n) W1 H1.out.1.w2 hB2 (by have := G.out.2.2.2.2.2; omega)).mono ?_
    rintro e W2 ⟨rfl, v2', hw2, ht2⟩
    have H2 := Lib.hid (And.intro (H1.out.1.snd hw2 ht2) (H1.out.2.trans (ht2.below H1.out.1.w2 hB2)))
    clear hw2 ht2
    go_wp2_with fail
    go_end0
    exact ⟨rfl, v1', v2', H2.out.1, (G.out.2.1.mono hBW).trans H2.out.2⟩
  · have j1 : (f.k : Int).tmod 5 = 2 := by rw [Int.tmod_eq_emod_of_nonneg (by omega)]; omega
    have j2 : (f.k : Int) % 5 = 2 := by omega
    have he : encF f = [tF (decide (f.n % 2 = 1))] := by simp only [encF, hj]
    rw [he]
    have e2 : ((f.n : Int) % 2 == 1) = decide (f.n % 2 = 1) := par_nat f.n
    have E2 := Lib.hid e2
    clear e2
    clear he hj
    go_enter Try.func11, Try.ntmps11
    go_wp2_with fail
    generalize W.alloc (.cells #[.int .u8 (f.k : Int), .int .u64 (f.n : Int), .string (txt f.s), .int .i64 f.most] 33) = W0 at G k0 k1 k2 k3 ⊢
    rw [E2.out]
    refine (bool_calls B g1 v1 l1 (decide (f.n % 2 = 1)) W0 G.out.1.w1 hB1 (by have := G.out.2.2.2.2.1; omega)).mono ?_
    rintro e W1 ⟨rfl, v1', hw1, ht1⟩
    have hbx := turn_heap' ht1 G.out.2.2.1 (by omega) (G.out.2.2.2.1 _ (by omega))
    obtain ⟨k0', k1', k2', k3'⟩ := fd_cells hbx
    have H1 := Lib.hid (And.intro (G.out.1.fst hw1 ht1) (ht1.below G.out.1.w1 hB1))
    have hs1 := ht1.size
    clear hw1 ht1 hbx k0 k1 k2 k3
    go_wp2_with fail
    rw [E2.out]
    refine (refbool_calls B g2 v2 l2 (decide (f.n % 2 = 1)) W1 H1.out.1.w2 hB2 (by have := G.out.2.2.2.2.2; omega)).mono ?_
    rintro e W2 ⟨rfl, v2', hw2, ht2⟩
    have H2 := Lib.hid (And.intro (H1.out.1.snd hw2 ht2) (H1.out.2.trans (ht2.below H1.out.1.w2 hB2)))
    clear hw2 ht2
    go_wp2_with fail
    go_end0
    exact ⟨rfl, v1', v2', H2.out.1, (G.out.2.1.mono hBW).trans H2.out.2⟩
  · have j1 : (f.k : Int).tmod 5 = 3 := by rw [Int.tmod_eq_emod_of_nonneg (by omega)]; omega
    have j2 : (f.k : Int) % 5 = 3 := by omega
    have he : encF f = textF f.s := by simp only [encF, hj]
    rw [he]
    
    clear he hj
    go_enter Try.func11, Try.ntmps11
    go_wp2_with fail
    generalize W.alloc (.cells #[.int .u8 (f.k : Int), .int .u64 (f.n : Int), .string (txt f.s), .int .i64 f.most] 33) = W0 at G k0 k1 k2 k3 ⊢
    refine (text_calls B g1 v1 l1 f.s W0 G.out.1.w1 hB1 (by have := G.out.2.2.2.2.1; omega)).mono ?_
    rintro e W1 ⟨rfl, v1', hw1, ht1⟩
    have hbx := turn_heap' ht1 G.out.2.2.1 (by omega) (G.out.2.2.2.1 _ (by omega))
    obtain ⟨k0', k1', k2', k3'⟩ := fd_cells hbx
    have H1 := Lib.hid (And.intro (G.out.1.fst hw1 ht1) (ht1.below G.out.1.w1 hB1))
    have hs1 := ht1.size
    clear hw1 ht1 hbx k0 k1 k2 k3
    go_wp2_with fail
    refine (reftext_calls B g2 v2 l2 f.s W1 H1.out.1.w2 hB2 (by have := G.out.2.2.2.2.2; omega)).mono ?_
    rintro e W2 ⟨rfl, v2', hw2, ht2⟩
    have H2 := Lib.hid (And.intro (H1.out.1.snd hw2 ht2) (H1.out.2.trans (ht2.below H1.out.1.w2 hB2)))
    clear hw2 ht2
    go_wp2_with fail
    go_end0
    exact ⟨rfl, v1', v2', H2.out.1, (G.out.2.1.mono hBW).trans H2.out.2⟩
  · have j1 : (f.k : Int).tmod 5 = 4 := by rw [Int.tmod_eq_emod_of_nonneg (by omega)]; omega
    have j2 : (f.k : Int) % 5 = 4 := by omega
    have he : encF f = keyOf f.s := by simp only [encF, hj]
    rw [he]
    
    clear he hj
    go_enter Try.func11, Try.ntmps11
    go_wp2_with fail
    generalize W.alloc (.cells #[.int .u8 (f.k : Int), .int .u64 (f.n : Int), .string (txt f.s), .int .i64 f.most] 33) = W0 at G k0 k1 k2 k3 ⊢
    refine (lkey_calls f.s hok.s W0).mono ?_
    rintro e Wk ⟨rfl, hbk⟩
    replace G := Lib.hid (And.intro (G.out.1.below hbk) (And.intro (G.out.2.1.trans (hbk.mono (by have := G.out.2.1.size; omega))) (And.intro ((hbk.block _ (Array.getElem?_eq_some_iff.1 G.out.2.2.1).1).trans G.out.2.2.1) G.out.2.2.2)))
    go_wp2_with fail
    refine (key_calls B g1 v1 l1 (keyOf f.s) (padF_len f.s 8 (by omega)) Wk G.out.1.w1 hB1 (by have := G.out.2.2.2.2.1; omega)).mono ?_
    rintro e W1 ⟨rfl, v1', hw1, ht1⟩
    have hbx := turn_heap' ht1 G.out.2.2.1 (by omega) (G.out.2.2.2.1 _ (by omega))
    obtain ⟨k0', k1', k2', k3'⟩ := fd_cells hbx
    have H1 := Lib.hid (And.intro (G.out.1.fst hw1 ht1) (ht1.below G.out.1.w1 hB1))
    have hs1 := ht1.size
    clear hw1 ht1 hbx k0 k1 k2 k3
    go_wp2_with fail
    refine (lkey_calls f.s hok.s W1).mono ?_
    rintro e Wm ⟨rfl, hbm⟩
    replace H1 := Lib.hid (And.intro (H1.out.1.below hbm) (H1.out.2.trans (hbm.mono (by have := G.out.2.1.size; omega))))
    go_wp2_with fail
    refine (refkey_calls B g2 v2 l2 (keyOf f.s) (padF_len f.s 8 (by omega)) Wm H1.out.1.w2 hB2 (by have := G.out.2.2.2.2.2; omega)).mono ?_
    rintro e W2 ⟨rfl, v2', hw2, ht2⟩
    have H2 := Lib.hid (And.intro (H1.out.1.snd hw2 ht2) (H1.out.2.trans (ht2.below H1.out.1.w2 hB2)))
    clear hw2 ht2
    go_wp2_with fail
    go_end0
    exact ⟨rfl, v1', v2', H2.out.1, (G.out.2.1.mono hBW).trans H2.out.2⟩
end Go.Proofs.Ytinilglljjffjaa.Cd
