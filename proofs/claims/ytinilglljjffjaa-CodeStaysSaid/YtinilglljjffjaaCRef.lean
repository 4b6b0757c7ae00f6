/- The walks of the reference's writer. -/
import Derived.Test.YtinilglljjffjaaCW2
namespace Go.Proofs.Ytinilglljjffjaa.Cd
set_option linter.unusedVariables false
set_option linter.unusedSimpArgs false
open Go.RowKit
open Go.Proofs.Ytinilglljjffjaa.Num

set_option maxHeartbeats 1000000 in
set_option maxRecDepth 100000 in
theorem refshort_calls (a : Option Addr) (c : Nat) (l : List UInt8) (n : Nat) (w : World) (hr : Row8 w a l) (hc0 : a = none → c = 0) (hlen : l.length ≤ 140737488355000) (hn : n < 18446744073709551616) :
    Calls Try.prog 55 #[.slice a l.length c, .int .u64 (n : Int)] w fun e w' => ∃ v, e = .returned v ∧ Own8 w' w.heap.size 5 v (l ++ short n) ∧ Below w.heap.size w w' := by
  have G := Lib.hid (And.intro hr (And.intro hc0 (And.intro hlen hn)))
  clear hr hc0 hlen
  go_enter Try.func55, Try.ntmps55
  go_wp2_with (at_builtin; refine wpList_append8 rfl _ _ 25 rfl w.heap.size 5 Try.underlying25 info8 (.slice none 0 0) [] l a c rfl (Own8.nil _ _ _) rfl G.out.1 G.out.2.1 (by have := G.out.2.2.1; simp; omega) (Nat.le_refl _) ?_; intro v w1 hown hgrow; rw [List.nil_append] at hown)
  have hb := below_of_grown hgrow
  go_loopw [1, 5] (fun i x w' => ∃ (f r : Nat) (L : List UInt8), i = .int .u64 (r : Int) ∧ r < 18446744073709551616 ∧ r < 128 ^ (f + 1) ∧ f ≤ 9 ∧ Own8 w' w.heap.size 5 x L ∧ L ++ dig (f + 1) r = l ++ short n ∧ L.length + f = l.length + 9 ∧ Below w.heap.size w w') (fun i _ _ => (intOf i).toNat)
  case atStart => exact ⟨9, n, l, rfl, hn, dig_room n hn, by omega, hown, rfl, rfl, hb⟩
  case round =>
    obtain ⟨f, r, L, rfl, hr64, hrf, hf9, hL, hcat, hsum, hB⟩ := hrel
    have H := Lib.hid (And.intro hcat (And.intro hsum (And.intro hL (And.intro hB hrf))))
    have hz := hB.size
    clear hcat hsum hL hB hrf
    by_cases h : r < 128
    · have e1 : (r : Int) = ((UInt8.ofNat r).toNat : Int) := by rw [UInt8.toNat_ofNat']; omega
      have hL2 := H.out.2.2.1.below (below_alloc1 wr (.cells #[.int .u8 (r : Int)] 5))
      have hR2 : Row8 (wr.alloc (.cells #[.int .u8 (r : Int)] 5)) (some ⟨wr.heap.size, 0, none⟩) [UInt8.ofNat r] := Row8.lit (heap_alloc_new _ _) (by rw [e1]; rfl)
      have K2 := Lib.hid (And.intro hL2 (And.intro hR2 (And.intro (show L.length + [UInt8.ofNat r].length ≤ 140737488355328 from by have := H.out.2.1; have := G.out.2.2.1; simp; omega) h)))
      clear hL2 hR2 e1
      go_wp2_with (at_builtin; refine wpList_append8 rfl _ _ 25 rfl w.heap.size 5 Try.underlying25 info8 _ L [UInt8.ofNat r] (some ⟨wr.heap.size, 0, none⟩) 1 rfl K2.out.1 rfl K2.out.2.1 (fun h => by cases h) K2.out.2.2.1 (by simp; omega) ?_; intro v' w2 hown2 hgrow2)
      go_ret
      refine ⟨_, rfl, ?_, grown_below (H.out.2.2.2.1.trans ((below_alloc1 wr _).mono hz)) (by simp; omega) K2.out.1 (Nat.le_refl _) hgrow2⟩
      have := H.out.1
      rw [dig_stop f r K2.out.2.2.2] at this
      rw [← this]
      exact hown2
    · have e5 : (r : Int) % 128 + 128 = ((UInt8.ofNat (r % 128 + 128)).toNat : Int) := by rw [UInt8.toNat_ofNat']; omega
      have hL2 := H.out.2.2.1.below (below_alloc1 wr (.cells #[.int .u8 ((r : Int) % 128 + 128)] 5))
      have hR2 : Row8 (wr.alloc (.cells #[.int .u8 ((r : Int) % 128 + 128)] 5)) (some ⟨wr.heap.size, 0, none⟩) [UInt8.ofNat (r % 128 + 128)] := Row8.lit (heap_alloc_new _ _) (by rw [e5]; rfl)
      have K2 := Lib.hid (And.intro hL2 (And.intro hR2 (And.intro (show L.length + [UInt8.ofNat (r % 128 + 128)].length ≤ 140737488355328 from by have := H.out.2.1; have := G.out.2.2.1; simp; omega) h)))
      clear hL2 hR2 e5
      go_wp2_with (at_builtin; refine wpList_append8 rfl _ _ 25 rfl w.heap.size 5 Try.underlying25 info8 _ L [UInt8.ofNat (r % 128 + 128)] (some ⟨wr.heap.size, 0, none⟩) 1 rfl K2.out.1 rfl K2.out.2.1 (fun h => by cases h) K2.out.2.2.1 (by simp; omega) ?_; intro v' w2 hown2 hgrow2)
      have hrf := H.out.2.2.2.2
      cases f with
      | zero => exfalso; rw [Nat.pow_one] at hrf; omega
      | succ f =>
        refine ⟨⟨f, r / 128, L ++ [UInt8.ofNat (r % 128 + 128)], rfl, by omega, ?_, by omega, hown2, ?_, ?_, grown_below (H.out.2.2.2.1.trans ((below_alloc1 wr _).mono hz)) (by simp; omega) K2.out.1 (Nat.le_refl _) hgrow2⟩, ?_⟩
        · rw [Nat.pow_succ] at hrf
          exact Nat.div_lt_of_lt_mul (by rw [Nat.mul_comm]; exact hrf)
        · have := H.out.1
          rw [dig_more (f + 1) r K2.out.2.2.2] at this
          rw [← this, List.append_assoc]
          rfl
        · rw [List.length_append, List.length_singleton]
          have := H.out.2.1
          omega
        · simp [intOf]; omega
/-- The writer's block behind a store of new bytes. -/
theorem Wst.replaced {B T g : Nat} {v v' : Value} {l l' : List UInt8} {W W1 : World} (h : Wst B T g v l W) (hB : B ≤ g) (hb : Below W.heap.size W W1) (hown : Own8 W1 W.heap.size 5 v' l') :
    Boxed W1 g T v ∧ Wst B T g v' l' (W1.setCell ⟨g, 0, none⟩ v') ∧ Turn g v v' W (W1.setCell ⟨g, 0, none⟩ v') := by
  have hlt := h.box.lt
  have hb1 : Boxed W1 g T v := (hb.block g hlt).trans h.box
  refine ⟨hb1, ⟨hb1.set v', (hown.kept (grownBy_setCell' W1 g v') (.inr (fun e => by have := (hown.lt g e).1; omega))).mono (by omega)⟩, ⟨hb.os, hb.tape, hb.output, by simpa using hb.size, ?_, ?_⟩⟩
  · intro k hk hkg hkv
    rw [Below.heap_setCell _ ⟨g, 0, none⟩ _ _ hkg]
    exact hb.block k hk
  · intro k hk
    exact .inr (hown.lt k hk).1
set_option maxRecDepth 100000 in
theorem refnum_calls (B g : Nat) (v : Value) (l : List UInt8) (n : Nat) (hn : n < 18446744073709551616) (W : World) (hw : Wst B 29 g v l W) (hB : B ≤ g) (hlen : l.length + 1000 ≤ 140737488355328) :
    Calls Try.prog 31 #[.pointer (some ⟨g, 0, none⟩), .int .u64 (n : Int)] W fun e W' => e = .returned (.tuple #[]) ∧ ∃ v', Wst B 29 g v' (l ++ short n) W' ∧ Turn g v v' W W' := by
  have hg := hw.box.cell
  have hf := hw.box.frozen
  obtain ⟨A, c, rfl, hr, _, _, hA⟩ := hw.own.row
  have hs := refshort_calls A c l n W hr hA (by omega) hn
  have G := Lib.hid (And.intro hw hs)
  clear hw hs hr hA hlen
  go_enter Try.func31, Try.ntmps31
  go_wp2_with fail
  refine G.out.2.mono ?_
  rintro e W1 ⟨v1, rfl, ho, hb⟩
  obtain ⟨hb1, hw2, ht2⟩ := G.out.1.replaced hB hb ho
  have hc1 := hb1.cell
  have hf1 := hb1.frozen
  obtain ⟨A1, c1, hv1, _⟩ := ho.row
  have H := Lib.hid (And.intro hw2 ht2)
  clear hw2 ht2 hb1 ho hb
  subst hv1
  go_wp2_with fail
  go_end0
  have h1 := H.out
  rw [List.length_append] at h1
  exact ⟨rfl, _, h1.1, h1.2⟩
set_option maxHeartbeats 1000000 in
set_option maxRecDepth 100000 in
theorem refbyte_calls (B g : Nat) (v : Value) (l : List UInt8) (x : UInt8) (W : World) (hw : Wst B 29 g v l W) (hB : B ≤ g) (hlen : l.length + 1 ≤ 140737488355328) :
    Calls Try.prog 32 #[.pointer (some ⟨g, 0, none⟩), .int .u8 (x.toNat : Int)] W fun e W' => e = .returned (.tuple #[]) ∧ ∃ v', Wst B 29 g v' (l ++ [x]) W' ∧ Turn g v v' W W' := by
  have hg := hw.box.cell
  have hf := hw.box.frozen
  obtain ⟨A, c, rfl, hr, _, _, hA⟩ := hw.own.row
  have G := Lib.hid (And.intro hw (And.intro hr (And.intro hA hlen)))
  clear hw hr hA hlen
  go_enter Try.func32, Try.ntmps32
  go_wp2_with (first | (at_builtin; refine wpList_append8 rfl _ (Operand.tmp 8) 25 rfl W.heap.size 5 Try.underlying25 info8 (.slice none 0 0) [] l A c rfl (Own8.nil _ _ _) rfl G.out.2.1 G.out.2.2.1 (by have := G.out.2.2.2; simp; omega) (Nat.le_refl _) ?_; intro v1 w1 hown hgrow; rw [List.nil_append] at hown; have hb1 := below_of_grown hgrow; have H1 := Lib.hid (And.intro hown hb1); clear hown hgrow hb1) | (at_builtin; refine wpList_append8 rfl (Operand.tmp 9) (Operand.tmp 11) 25 rfl W.heap.size 5 Try.underlying25 info8 v1 l [x] (some ⟨w1.heap.size, 0, none⟩) 1 rfl (H1.out.1.below (below_alloc1 w1 _)) rfl (Row8.lit (heap_alloc_new _ _) rfl) (fun h => by cases h) (by simpa using G.out.2.2.2) (by have := H1.out.2.size; simp; omega) ?_; intro v2 w2 hown2 hgrow2; obtain ⟨hb1, hw2, ht2⟩ := G.out.1.replaced hB (grown_below (H1.out.2.trans ((below_alloc1 w1 _).mono H1.out.2.size)) (by have := H1.out.2.size; simp; omega) (H1.out.1.below (below_alloc1 w1 _)) (Nat.le_refl _) hgrow2) hown2; have hc1 := hb1.cell; have hf1 := hb1.frozen; obtain ⟨A2, c2, hv2, _⟩ := hown2.row; have H := Lib.hid (And.intro hw2 ht2); clear hw2 ht2 hb1 hown2 hgrow2; subst hv2))
  go_end0
  have h1 := H.out
  simp only [List.length_append] at h1
  exact ⟨rfl, _, h1.1, h1.2⟩
theorem refbool_calls (B g : Nat) (v : Value) (l : List UInt8) (x : Bool) (W : World) (hw : Wst B 29 g v l W) (hB : B ≤ g) (hlen : l.length + 1 ≤ 140737488355328) :
    Calls Try.prog 33 #[.pointer (some ⟨g, 0, none⟩), .bool x] W fun e W' => e = .returned (.tuple #[]) ∧ ∃ v', Wst B 29 g v' (l ++ [tF x]) W' ∧ Turn g v v' W W' := by
  have hc := refbyte_calls B g v l (tF x) W hw hB hlen
  have G := Lib.hid hc
  clear hc hw
  cases x with
  | true =>
    go_enter Try.func33, Try.ntmps33
    go_wp2_with fail
    refine G.out.mono ?_
    rintro e W2 ⟨rfl, v2, hw2, ht2⟩
    have H := Lib.hid (And.intro hw2 ht2)
    clear hw2 ht2
    go_wp2_with fail
    go_end0
    exact ⟨rfl, _, H.out.1, H.out.2⟩
  | false =>
    go_enter Try.func33, Try.ntmps33
    go_wp2_with fail
    refine G.out.mono ?_
    rintro e W2 ⟨rfl, v2, hw2, ht2⟩
    have H := Lib.hid (And.intro hw2 ht2)
    clear hw2 ht2
    go_wp2_with fail
    go_end0
    exact ⟨rfl, _, H.out.1, H.out.2⟩
set_option maxHeartbeats 1000000 in
set_option maxRecDepth 100000 in
theorem refkey_calls (B g : Nat) (v : Value) (l k : List UInt8) (hk : k.length = 8) (W : World) (hw : Wst B 29 g v l W) (hB : B ≤ g) (hlen : l.length + 8 ≤ 140737488355328) :
    Calls Try.prog 35 #[.pointer (some ⟨g, 0, none⟩), keyV k] W fun e W' => e = .returned (.tuple #[]) ∧ ∃ v', Wst B 29 g v' (l ++ k) W' ∧ Turn g v v' W W' := by
  have hb : Below W.heap.size W (W.alloc (.cells (k.map v8).toArray 55)) := below_alloc1 _ _
  have hbox : (W.alloc (.cells (k.map v8).toArray 55)).heap[W.heap.size]? = some (.cells (k.map v8).toArray 55 (0, 0)) := heap_alloc_new _ _
  have hvo : v.ownBlock ≠ some W.heap.size := fun e => by have := (hw.own.lt _ e).2; omega
  have hglt := hw.box.lt
  have G := Lib.hid (And.intro (hw.below hb) (And.intro hb (And.intro hbox (And.intro hvo (And.intro hlen hk)))))
  clear hb hbox hvo hw hlen
  obtain ⟨x0, x1, x2, x3, x4, x5, x6, x7, rfl⟩ := eight hk
  unfold keyV
  go_enter Try.func35, Try.ntmps35
  go_wp2_with fail
  have ew : W.alloc (.cells #[v8 x0, v8 x1, v8 x2, v8 x3, v8 x4, v8 x5, v8 x6, v8 x7] 55) = W.alloc (.cells (([x0, x1, x2, x3, x4, x5, x6, x7] : List UInt8).map v8).toArray 55) := rfl
  rw [ew]
  clear ew
  generalize W.alloc (.cells (([x0, x1, x2, x3, x4, x5, x6, x7] : List UInt8).map v8).toArray 55) = W1 at G ⊢
  generalize hkk : ([x0, x1, x2, x3, x4, x5, x6, x7] : List UInt8) = k at G hk ⊢
  have HKK := Lib.hid hkk
  clear hkk
  go_loopw [4] (fun i wr => ∃ (j : Nat) (v2 : Value), j ≤ 8 ∧ i = .int .i64 (j : Int) ∧ Wst B 29 g v2 (l ++ k.take j) wr ∧ Turn g v v2 W1 wr) (fun i _ => 8 - (intOf i).toNat)
  case atStart => exact ⟨0, v, by omega, rfl, by simpa using G.out.1, Turn.of_below (Below.refl _ _)⟩
  case round =>
    obtain ⟨j, v2, hj, rfl, hw2, ht2⟩ := hrel
    have H := Lib.hid (And.intro hw2 ht2)
    clear hw2 ht2
    by_cases hlt : j < 8
    · have hbl : wr.heap[W.heap.size]? = some (.cells (k.map v8).toArray 55 (0, 0)) := (H.out.2.keep W.heap.size (Array.getElem?_eq_some_iff.1 G.out.2.2.1).1 (by omega) G.out.2.2.2.1).trans G.out.2.2.1
      have hjk : j < k.length := by omega
      obtain ⟨x, hx⟩ : ∃ x, x = k[j] := ⟨_, rfl⟩
      have hck : wr.cell? ((⟨W.heap.size, 0, none⟩ : Addr).add j) = some (.int .u8 (x.toNat : Int)) := by
        rw [cell_block hbl, hx]
        simp [hjk, v8]
      have hck2 : wr.cell? ⟨W.heap.size, j, none⟩ = some (.int .u8 (x.toNat : Int)) := by
        rw [← hck]; unfold Addr.add; split <;> simp_all
      have hnx : k.take (j + 1) = k.take j ++ [x] := by rw [hx, List.take_succ_eq_append_getElem hjk]
      have hby := refbyte_calls B g v2 (l ++ k.take j) x wr H.out.1 hB (by simp only [List.length_append, List.length_take]; have := G.out.2.2.2.2.1; omega)
      have HN := Lib.hid (And.intro hby hnx)
      clear hby hnx hx hbl hk
      go_wp2_with fail
      refine HN.out.1.mono ?_
      rintro e W3 ⟨rfl, v3, hw3, ht3⟩
      have H3 := Lib.hid (And.intro hw3 (H.out.2.trans ht3))
      clear hw3 ht3
      go_wp2_with fail
      go_roundw
      case rel => exact ⟨j + 1, v3, by omega, by go_num, by rw [HN.out.2, ← List.append_assoc]; exact H3.out.1, H3.out.2⟩
      case measure => (first | (simp [intOf]; done) | (simp [intOf]; omega))
    · obtain rfl : j = 8 := by omega
      have ht8 : k.take 8 = k := List.take_of_length_le (by omega)
      have hw8 := H.out.1
      rw [ht8] at hw8
      have H8 := Lib.hid hw8
      clear hw8 ht8 hk
      go_wp2_with fail
      go_end0
      exact ⟨rfl, v2, by rw [HKK.out]; exact H8.out, (Turn.of_below G.out.2.1).trans H.out.2⟩
end Go.Proofs.Ytinilglljjffjaa.Cd
