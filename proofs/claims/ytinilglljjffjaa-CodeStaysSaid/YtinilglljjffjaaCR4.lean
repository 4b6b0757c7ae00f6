/- The walk of the program's reader: a field that is a key. -/
import Derived.Test.YtinilglljjffjaaCR3
namespace Go.Proofs.Ytinilglljjffjaa.Cd
set_option linter.unusedVariables false
set_option linter.unusedSimpArgs false
open Go.RowKit
open Go.Proofs.Ytinilglljjffjaa.Num

/-- What the region reads of the reader. -/
abbrev Sk (g : Nat) (A : Option Addr) (n c a : Nat) (W : World) : Prop := W.cell? ⟨g, 0, none⟩ = some (.slice A n c) ∧ W.cell? ⟨g, 1, none⟩ = some (.int .i64 (a : Int))
theorem Sk.below {g : Nat} {A : Option Addr} {n c a : Nat} {W W' : World} (h : Sk g A n c a W) (hb : Below W.heap.size W W') : Sk g A n c a W' := by
  have hlt : g < W.heap.size := World.block_lt_of_cell? W _ h.1
  exact ⟨(World.cell?_of_block (hb.block g hlt)).trans h.1, (World.cell?_of_block (hb.block g hlt)).trans h.2⟩
theorem Sk.set {g b : Nat} {A : Option Addr} {n c a : Nat} {W : World} (h : Sk g A n c a W) (hb : g ≠ b) (i : Nat) (v : Value) : Sk g A n c a (W.setCell ⟨b, i, none⟩ v) := by
  refine ⟨(World.cell?_of_block ?_).trans h.1, (World.cell?_of_block ?_).trans h.2⟩
  · exact Below.heap_setCell _ ⟨b, i, none⟩ _ _ hb
  · exact Below.heap_setCell _ ⟨b, i, none⟩ _ _ hb
theorem Sk.set8 {g b : Nat} {A : Option Addr} {n c a : Nat} {w1 : World} (h : Sk g A n c a w1) (hb : g ≠ b) (v0 v1 v2 v3 v4 v5 v6 v7 : Value) : Sk g A n c a ((((((((w1.setCell ⟨b, 0, none⟩ v0).setCell ⟨b, 1, none⟩ v1).setCell ⟨b, 2, none⟩ v2).setCell ⟨b, 3, none⟩ v3).setCell ⟨b, 4, none⟩ v4).setCell ⟨b, 5, none⟩ v5).setCell ⟨b, 6, none⟩ v6).setCell ⟨b, 7, none⟩ v7) := ((((((((h.set hb 0 v0).set hb 1 v1).set hb 2 v2).set hb 3 v3).set hb 4 v4).set hb 5 v5).set hb 6 v6).set hb 7 v7)
theorem rst_setc {g b : Nat} {A : Option Addr} {c : Nat} {l : List UInt8} {s : Rs} {W : World} (h : Rst g A c l s W) (hgb : g < b) (i : Nat) (v : Value) : Rst g A c l s (W.setCell ⟨b, i, none⟩ v) := by
  refine ⟨?_, ?_, h.cap, h.big, h.nul, h.far, h.at_, h.fat, h.why⟩
  · rw [Below.heap_setCell _ ⟨b, i, none⟩ _ _ (by show g ≠ b; omega)]; exact h.box
  · rcases h.row with h1 | ⟨z, hz, hc⟩
    · exact .inl h1
    · refine .inr ⟨z, hz, fun j hj => ?_⟩
      have hb : (z.add j).block = z.block := by unfold Addr.add; split <;> rfl
      have := h.far z hz
      rw [World.cell?_setCell_other _ ⟨b, i, none⟩ _ _ (by intro e; have := congrArg Addr.block e; rw [hb] at this; simp at this; omega)]
      exact hc j hj
theorem rst_set8 {g b : Nat} {A : Option Addr} {c : Nat} {l : List UInt8} {s : Rs} {w1 : World} (h : Rst g A c l s w1) (hgb : g < b) (v0 v1 v2 v3 v4 v5 v6 v7 : Value) : Rst g A c l s ((((((((w1.setCell ⟨b, 0, none⟩ v0).setCell ⟨b, 1, none⟩ v1).setCell ⟨b, 2, none⟩ v2).setCell ⟨b, 3, none⟩ v3).setCell ⟨b, 4, none⟩ v4).setCell ⟨b, 5, none⟩ v5).setCell ⟨b, 6, none⟩ v6).setCell ⟨b, 7, none⟩ v7) := (rst_setc (rst_setc (rst_setc (rst_setc (rst_setc (rst_setc (rst_setc (rst_setc h hgb 0 v0) hgb 1 v1) hgb 2 v2) hgb 3 v3) hgb 4 v4) hgb 5 v5) hgb 6 v6) hgb 7 v7)
theorem but_setc {g b : Nat} {W W' : World} (h : But g W W') (hb : W.heap.size ≤ b) (i : Nat) (v : Value) : But g W (W'.setCell ⟨b, i, none⟩ v) := by
  have hs : W'.heap.size = (W'.setCell ⟨b, i, none⟩ v).heap.size := by simp
  refine ⟨h.os, h.tape, h.output, hs ▸ h.size, fun k hk hg hv => ?_, fun k hk => by simp [Value.ownBlock] at hk⟩
  rw [Below.heap_setCell _ ⟨b, i, none⟩ _ _ (by show k ≠ b; omega)]
  exact h.keep k hk hg hv
theorem but_set8 {g b : Nat} {W w1 : World} (h : But g W w1) (hb : W.heap.size ≤ b) (v0 v1 v2 v3 v4 v5 v6 v7 : Value) : But g W ((((((((w1.setCell ⟨b, 0, none⟩ v0).setCell ⟨b, 1, none⟩ v1).setCell ⟨b, 2, none⟩ v2).setCell ⟨b, 3, none⟩ v3).setCell ⟨b, 4, none⟩ v4).setCell ⟨b, 5, none⟩ v5).setCell ⟨b, 6, none⟩ v6).setCell ⟨b, 7, none⟩ v7) := (but_setc (but_setc (but_setc (but_setc (but_setc (but_setc (but_setc (but_setc h hb 0 v0) hb 1 v1) hb 2 v2) hb 3 v3) hb 4 v4) hb 5 v5) hb 6 v6) hb 7 v7)
theorem key_setc {b d : Nat} {k : List UInt8} {W : World} (h : KeyAt b k W) (hbd : b ≠ d) (i : Nat) (v : Value) : KeyAt b k (W.setCell ⟨d, i, none⟩ v) := by
  unfold KeyAt
  rw [Below.heap_setCell _ ⟨d, i, none⟩ _ _ hbd]; exact h
theorem key_set8 {d b : Nat} {k : List UInt8} {w1 : World} (h : KeyAt d k w1) (hdb : d ≠ b) (v0 v1 v2 v3 v4 v5 v6 v7 : Value) : KeyAt d k ((((((((w1.setCell ⟨b, 0, none⟩ v0).setCell ⟨b, 1, none⟩ v1).setCell ⟨b, 2, none⟩ v2).setCell ⟨b, 3, none⟩ v3).setCell ⟨b, 4, none⟩ v4).setCell ⟨b, 5, none⟩ v5).setCell ⟨b, 6, none⟩ v6).setCell ⟨b, 7, none⟩ v7) := (key_setc (key_setc (key_setc (key_setc (key_setc (key_setc (key_setc (key_setc h hdb 0 v0) hdb 1 v1) hdb 2 v2) hdb 3 v3) hdb 4 v4) hdb 5 v5) hdb 6 v6) hdb 7 v7)
theorem key_is {b : Nat} {k : List UInt8} {w1 : World} (h : KeyAt b k w1) (hk : k.length = 8) (x0 x1 x2 x3 x4 x5 x6 x7 : UInt8) : KeyAt b [x0, x1, x2, x3, x4, x5, x6, x7] ((((((((w1.setCell ⟨b, 0, none⟩ (v8 x0)).setCell ⟨b, 1, none⟩ (v8 x1)).setCell ⟨b, 2, none⟩ (v8 x2)).setCell ⟨b, 3, none⟩ (v8 x3)).setCell ⟨b, 4, none⟩ (v8 x4)).setCell ⟨b, 5, none⟩ (v8 x5)).setCell ⟨b, 6, none⟩ (v8 x6)).setCell ⟨b, 7, none⟩ (v8 x7)) := by
  obtain ⟨y0, y1, y2, y3, y4, y5, y6, y7, rfl⟩ := eight hk
  have h' : w1.heap[b]? = some (.cells #[v8 y0, v8 y1, v8 y2, v8 y3, v8 y4, v8 y5, v8 y6, v8 y7] 55 (0, 0)) := h
  have := block_set (i := 7) (block_set (i := 6) (block_set (i := 5) (block_set (i := 4) (block_set (i := 3) (block_set (i := 2) (block_set (i := 1) (block_set (i := 0) h' (v8 x0)) (v8 x1)) (v8 x2)) (v8 x3)) (v8 x4)) (v8 x5)) (v8 x6)) (v8 x7)
  unfold KeyAt
  simpa using this
/-- Behind the region: the reader, the boxes. -/
structure Fk (g : Nat) (A : Option Addr) (c : Nat) (l : List UInt8) (a : Nat) (n : List UInt8) (W : World) (b : Nat) (W3 : World) : Prop where
  rst : Rst g A c l ⟨a, 0, 0⟩ W3
  res : KeyAt W.heap.size zero8 W3
  zer : KeyAt (W.heap.size + 1) zero8 W3
  key : KeyAt b n W3
  bel : Below W.heap.size W W3
  far : W.heap.size + 2 ≤ b
set_option maxHeartbeats 4000000 in
set_option maxRecDepth 100000 in
theorem fieldK_calls (g : Nat) (A : Option Addr) (c : Nat) (l : List UInt8) (s : Rs) (W : World) (h : Rst g A c l s W) :
    Calls Try.prog 50 #[.pointer (some ⟨g, 0, none⟩), .func (.func 51) #[] #[]] W fun e W' => e = .returned (keyV (fieldF zero8 keyR l s).1) ∧ Rst g A c l (fieldF zero8 keyR l s).2 W' ∧ But g W W' := by
  obtain ⟨hR, hZ, hbel⟩ := zeros2 W
  have hlt := (Array.getElem?_eq_some_iff.1 h.box).1
  have h2 := h.below hbel
  obtain ⟨k0, k1, k2, k3⟩ := h2.cells
  have hat := h.at_
  have hcap := h.cap
  have hbig := h.big
  have hb0 := But.of_below (g := g) hbel
  obtain ⟨m0, m1, m2, m3, m4, m5, m6, m7⟩ := hZ.zero
  have f0 := hR.free 0
  have f1 := hR.free 1
  have f2 := hR.free 2
  have f3 := hR.free 3
  have f4 := hR.free 4
  have f5 := hR.free 5
  have f6 := hR.free 6
  have f7 := hR.free 7
  obtain ⟨a, y, f⟩ := s
  simp only at k1 k2 k3 hat
  by_cases hz : y = 0 ∧ f = 0
  · obtain ⟨rfl, rfl⟩ := hz
    obtain ⟨A2, hsl, hrow⟩ := sl_from (P := Try.prog) (t := 25) Try.underlying25 size8 A l.length c a (a : Int) rfl hat
    have hr2 := hrow _ l rfl hcap h2.row
    have hln : l.length - a = (l.drop a).length := by rw [List.length_drop]
    have hrd := fun W' (hr : Row8 W' A2 (l.drop a)) => ckey_calls A2 (c - a) (l.drop a) W' hr (by rw [List.length_drop]; omega)
    have hk : (keyR (l.drop a)).2.1 ≤ l.length - a := by rw [hln]; exact (keyR_fits (l.drop a)).1
    have he : (keyR (l.drop a)).2.2 ≤ 17 := (keyR_fits (l.drop a)).2
    have hk8 := keyR_len (l.drop a)
    have hF : fieldF zero8 keyR l ⟨a, 0, 0⟩ = if (keyR (l.drop a)).2.2 = 0 then ((keyR (l.drop a)).1, ⟨a + (keyR (l.drop a)).2.1, 0, 0⟩) else (zero8, ⟨a, (keyR (l.drop a)).2.2, a⟩) := by
      unfold fieldF; rw [if_pos ⟨rfl, rfl⟩]
    obtain ⟨R, hRR⟩ : ∃ R, R = keyR (l.drop a) := ⟨_, rfl⟩
    rw [← hRR] at hk he hF hk8
    simp only [← hRR] at hrd
    rw [← hln] at hrd
    obtain ⟨n, k, e0⟩ := R
    simp only at hk he hF hrd hk8
    rw [hF]
    obtain ⟨x0, x1, x2, x3, x4, x5, x6, x7, rfl⟩ := eight hk8
    unfold keyV at hrd
    simp only [List.map_cons, List.map_nil, v8] at hrd
    have hS : Sk g A l.length c a ((W.alloc (.cells #[.int .u8 0, .int .u8 0, .int .u8 0, .int .u8 0, .int .u8 0, .int .u8 0, .int .u8 0, .int .u8 0] 55)).alloc (.cells #[.int .u8 0, .int .u8 0, .int .u8 0, .int .u8 0, .int .u8 0, .int .u8 0, .int .u8 0, .int .u8 0] 55)) := ⟨k0, k1⟩
    have G := Lib.hid (And.intro hbel (And.intro h2 (And.intro hR (And.intro hZ (And.intro hr2 (And.intro hrd hS))))))
    clear hF hRR hrow hr2 hrd h hcap hbig hln h2 hS hR hZ hbel
    have bA : (0 : Int) ≤ (a : Int) := by omega
    have bB : (a : Int) ≤ (l.length : Int) := by omega
    go_enter Try.func50, Try.ntmps50
    go_wp2_with fail
    have hws : ((W.alloc (.cells #[.int .u8 0, .int .u8 0, .int .u8 0, .int .u8 0, .int .u8 0, .int .u8 0, .int .u8 0, .int .u8 0] 55)).alloc (.cells #[.int .u8 0, .int .u8 0, .int .u8 0, .int .u8 0, .int .u8 0, .int .u8 0, .int .u8 0, .int .u8 0] 55)).heap.size = W.heap.size + 2 := by simp
    generalize ((W.alloc (.cells #[.int .u8 0, .int .u8 0, .int .u8 0, .int .u8 0, .int .u8 0, .int .u8 0, .int .u8 0, .int .u8 0] 55)).alloc (.cells #[.int .u8 0, .int .u8 0, .int .u8 0, .int .u8 0, .int .u8 0, .int .u8 0, .int .u8 0, .int .u8 0] 55)) = W2 at G k0 k1 k2 k3 hws hb0 m0 m1 m2 m3 m4 m5 m6 m7 f0 f1 f2 f3 f4 f5 f6 f7 ⊢
    have H1 := Lib.hid (G.out.2.2.2.2.2.1 W2.drew G.out.2.2.2.2.1)
    have H2 := Lib.hid (G.out.2.2.2.2.2.1 (W2.alloc (.cells #[.int .u8 0, .int .u8 0, .int .u8 0, .int .u8 0, .int .u8 0, .int .u8 0, .int .u8 0, .int .u8 0] 55)).drew (G.out.2.2.2.2.1.below (w := W2) (w1 := (W2.alloc (.cells #[.int .u8 0, .int .u8 0, .int .u8 0, .int .u8 0, .int .u8 0, .int .u8 0, .int .u8 0, .int .u8 0] 55)).drew) (below_alloc1 _ _).drew))
    have HB : Hid (KeyAt (W.heap.size + 2) zero8 (W2.alloc (.cells #[.int .u8 0, .int .u8 0, .int .u8 0, .int .u8 0, .int .u8 0, .int .u8 0, .int .u8 0, .int .u8 0] 55)).drew) := Lib.hid (by rw [← hws]; exact heap_alloc_new _ _)
    have HSd : Hid (Sk g A l.length c a W2.drew) := Lib.hid ⟨k0, k1⟩
    have HSa : Hid (Sk g A l.length c a (W2.alloc (.cells #[.int .u8 0, .int .u8 0, .int .u8 0, .int .u8 0, .int .u8 0, .int .u8 0, .int .u8 0, .int .u8 0] 55)).drew) := Lib.hid (Sk.below (W := W2) ⟨k0, k1⟩ (below_alloc1 _ _).drew)
    go_region_held3 (fun W' => W'.cell? ⟨g, 0, none⟩ = some (.slice A l.length c) ∧ W'.cell? ⟨g, 1, none⟩ = some (.int .i64 (a : Int))) (first | with_reducible exact ⟨k0, k1⟩ | with_reducible exact HSd.out | with_reducible exact HSa.out | with_reducible exact HSd.out.below hbk | with_reducible exact HSa.out.below hbk | with_reducible exact (HSd.out.below hbk).below (below_alloc1 _ _) | with_reducible exact ((HSd.out.below hbk).below (below_alloc1 _ _)).set8 (by have := hbk.size; have hh : W2.drew.heap.size = W2.heap.size := rfl; omega) _ _ _ _ _ _ _ _ | with_reducible exact (HSa.out.below hbk).set8 (by omega) _ _ _ _ _ _ _ _ | fail) (first | (go_at_call 51; ((with_reducible refine (H1.out).mono ?_); rintro e w' ⟨rfl, hbk⟩)) | (go_at_call 51; ((with_reducible refine (H2.out).mono ?_); rintro e w' ⟨rfl, hbk⟩; have hkb := HB.out.below hbk; obtain ⟨q0, q1, q2, q3, q4, q5, q6, q7⟩ := hkb.zero; have q0' := hkb.free 0; have q1' := hkb.free 1; have q2' := hkb.free 2; have q3' := hkb.free 3; have q4' := hkb.free 4; have q5' := hkb.free 5; have q6' := hkb.free 6; have q7' := hkb.free 7)))
    · have F : Hid (Fk g A c l a [x0, x1, x2, x3, x4, x5, x6, x7] W w'.heap.size (w'.alloc (.cells #[.int .u8 (x0.toNat : Int), .int .u8 (x1.toNat : Int), .int .u8 (x2.toNat : Int), .int .u8 (x3.toNat : Int), .int .u8 (x4.toNat : Int), .int .u8 (x5.toNat : Int), .int .u8 (x6.toNat : Int), .int .u8 (x7.toNat : Int)] 55))) := Lib.hid (by
        have hbd : Below W2.heap.size W2 w' := (Below.refl _ _).drew.trans hbk
        have hba := hbd.alloc hbd.size (.cells #[.int .u8 (x0.toNat : Int), .int .u8 (x1.toNat : Int), .int .u8 (x2.toNat : Int), .int .u8 (x3.toNat : Int), .int .u8 (x4.toNat : Int), .int .u8 (x5.toNat : Int), .int .u8 (x6.toNat : Int), .int .u8 (x7.toNat : Int)] 55)
        exact ⟨G.out.2.1.below hba, G.out.2.2.1.below hba, G.out.2.2.2.1.below hba, heap_alloc_new _ _, G.out.1.trans (hba.mono (by omega)), by have := hbd.size; omega⟩)
      generalize (w'.alloc (.cells #[.int .u8 (x0.toNat : Int), .int .u8 (x1.toNat : Int), .int .u8 (x2.toNat : Int), .int .u8 (x3.toNat : Int), .int .u8 (x4.toNat : Int), .int .u8 (x5.toNat : Int), .int .u8 (x6.toNat : Int), .int .u8 (x7.toNat : Int)] 55)) = W3 at F ⊢
      generalize w'.heap.size = b at F ⊢
      clear H1 H2 HB HSd HSa hbk k0 k1 k2 k3 hb0 m0 m1 m2 m3 m4 m5 m6 m7 f0 f1 f2 f3 f4 f5 f6 f7 
      have hfar := F.out.far
      by_cases h0 : e0 = 0
      · subst h0
        have hcb : a + k ≤ l.length := by omega
        have hw : wrap64 ((a : Int) + (k : Int)) = ((a + k : Nat) : Int) := by have := F.out.rst.cap; have := F.out.rst.big; unfold wrap64; omega
        have hb1 : (a : Int) + (k : Int) ≤ 9223372036854775807 := by have := F.out.rst.cap; have := F.out.rst.big; omega
        have c1 := F.out.rst.cells
        obtain ⟨k0, k1, k2, k3⟩ := c1
        obtain ⟨hr3, hb3⟩ := F.out.rst.moved (a + k) hcb
        have hkey := key_setc (d := g) F.out.key (by omega) 1 (.int .i64 ((a + k : Nat) : Int))
        have hres := key_setc (d := g) F.out.res (by omega) 1 (.int .i64 ((a + k : Nat) : Int))
        obtain ⟨n0, n1, n2, n3, n4, n5, n6, n7⟩ := hkey.cells
        obtain ⟨r0, r1, r2, r3, r4, r5, r6, r7⟩ := hres.zero
        have p0 := hres.free 0; have p1 := hres.free 1; have p2 := hres.free 2; have p3 := hres.free 3; have p4 := hres.free 4; have p5 := hres.free 5; have p6 := hres.free 6; have p7 := hres.free 7
        have g1 := F.out.rst.free 1
        have H3 := Lib.hid (And.intro hr3 hb3)
        clear hr3 hb3 hkey hres
        simp only [Int.natCast_add] at n0 n1 n2 n3 n4 n5 n6 n7 r0 r1 r2 r3 r4 r5 r6 r7 p0 p1 p2 p3 p4 p5 p6 p7
        go_wp2_with fail
        refine bodyPost_ret (v := keyV [x0, x1, x2, x3, x4, x5, x6, x7]) (by simp [results, Try.results50, go_sem, keyV, v8, r0, r1, r2, r3, r4, r5, r6, r7]) rfl ⟨rfl, ?_, ?_⟩
        · have h3 := H3.out
          rw [Int.natCast_add] at h3
          exact rst_set8 h3.1 hlt _ _ _ _ _ _ _ _
        · have h3 := H3.out
          rw [Int.natCast_add] at h3
          exact but_set8 ((But.of_below F.out.bel).trans h3.2) (Nat.le_refl _) _ _ _ _ _ _ _ _
      · have hne : ((e0 : Int) != 0) = true := by rw [bne_iff_ne]; omega
        have c1 := F.out.rst.cells
        obtain ⟨k0, k1, k2, k3⟩ := c1
        obtain ⟨hr3, hb3⟩ := F.out.rst.faulted e0 a he hat
        have hres := key_setc (d := g) (key_setc (d := g) F.out.res (by omega) 2 (.int .i64 (e0 : Int))) (by omega) 3 (.int .i64 (a : Int))
        have hzer := key_setc (d := g) (key_setc (d := g) F.out.zer (by omega) 2 (.int .i64 (e0 : Int))) (by omega) 3 (.int .i64 (a : Int))
        obtain ⟨n0, n1, n2, n3, n4, n5, n6, n7⟩ := hzer.zero
        obtain ⟨r0, r1, r2, r3, r4, r5, r6, r7⟩ := hres.zero
        have p0 := hres.free 0; have p1 := hres.free 1; have p2 := hres.free 2; have p3 := hres.free 3; have p4 := hres.free 4; have p5 := hres.free 5; have p6 := hres.free 6; have p7 := hres.free 7
        have g2 := F.out.rst.free 2
        have g3 := F.out.rst.free 3
        have H3 := Lib.hid (And.intro hr3 hb3)
        clear hr3 hb3 hres hzer
        go_wp2_with fail
        refine bodyPost_ret (v := keyV zero8) (by simp [results, Try.results50, go_sem, keyV, v8, zero8, r0, r1, r2, r3, r4, r5, r6, r7]) rfl ⟨rfl, rst_set8 H3.out.1 hlt _ _ _ _ _ _ _ _, but_set8 ((But.of_below F.out.bel).trans H3.out.2) (Nat.le_refl _) _ _ _ _ _ _ _ _⟩
    · have F : Hid (Fk g A c l a [x0, x1, x2, x3, x4, x5, x6, x7] W (W.heap.size + 2) ((((((((w'.setCell ⟨W.heap.size + 2, 0, none⟩ (.int .u8 (x0.toNat : Int))).setCell ⟨W.heap.size + 2, 1, none⟩ (.int .u8 (x1.toNat : Int))).setCell ⟨W.heap.size + 2, 2, none⟩ (.int .u8 (x2.toNat : Int))).setCell ⟨W.heap.size + 2, 3, none⟩ (.int .u8 (x3.toNat : Int))).setCell ⟨W.heap.size + 2, 4, none⟩ (.int .u8 (x4.toNat : Int))).setCell ⟨W.heap.size + 2, 5, none⟩ (.int .u8 (x5.toNat : Int))).setCell ⟨W.heap.size + 2, 6, none⟩ (.int .u8 (x6.toNat : Int))).setCell ⟨W.heap.size + 2, 7, none⟩ (.int .u8 (x7.toNat : Int)))) := Lib.hid (by
        have hbd : Below W2.heap.size W2 w' := ((below_alloc1 _ _).drew).trans (hbk.mono (by simp))
        refine ⟨rst_set8 (G.out.2.1.below hbd) (by omega) _ _ _ _ _ _ _ _, key_set8 (G.out.2.2.1.below hbd) (by omega) _ _ _ _ _ _ _ _, key_set8 (G.out.2.2.2.1.below hbd) (by omega) _ _ _ _ _ _ _ _, key_is hkb rfl _ _ _ _ _ _ _ _, below_set8 (G.out.1.trans (hbd.mono (by omega))) (by omega) _ _ _ _ _ _ _ _, by omega⟩)
      generalize ((((((((w'.setCell ⟨W.heap.size + 2, 0, none⟩ (.int .u8 (x0.toNat : Int))).setCell ⟨W.heap.size + 2, 1, none⟩ (.int .u8 (x1.toNat : Int))).setCell ⟨W.heap.size + 2, 2, none⟩ (.int .u8 (x2.toNat : Int))).setCell ⟨W.heap.size + 2, 3, none⟩ (.int .u8 (x3.toNat : Int))).setCell ⟨W.heap.size + 2, 4, none⟩ (.int .u8 (x4.toNat : Int))).setCell ⟨W.heap.size + 2, 5, none⟩ (.int .u8 (x5.toNat : Int))).setCell ⟨W.heap.size + 2, 6, none⟩ (.int .u8 (x6.toNat : Int))).setCell ⟨W.heap.size + 2, 7, none⟩ (.int .u8 (x7.toNat : Int))) = W3 at F ⊢
      generalize W.heap.size + 2 = b at F ⊢
      clear H1 H2 HB HSd HSa hbk k0 k1 k2 k3 hb0 m0 m1 m2 m3 m4 m5 m6 m7 f0 f1 f2 f3 f4 f5 f6 f7 hkb q0 q1 q2 q3 q4 q5 q6 q7 q0' q1' q2' q3' q4' q5' q6' q7'
      have hfar := F.out.far
      by_cases h0 : e0 = 0
      · subst h0
        have hcb : a + k ≤ l.length := by omega
        have hw : wrap64 ((a : Int) + (k : Int)) = ((a + k : Nat) : Int) := by have := F.out.rst.cap; have := F.out.rst.big; unfold wrap64; omega
        have hb1 : (a : Int) + (k : Int) ≤ 9223372036854775807 := by have := F.out.rst.cap; have := F.out.rst.big; omega
        have c1 := F.out.rst.cells
        obtain ⟨k0, k1, k2, k3⟩ := c1
        obtain ⟨hr3, hb3⟩ := F.out.rst.moved (a + k) hcb
        have hkey := key_setc (d := g) F.out.key (by omega) 1 (.int .i64 ((a + k : Nat) : Int))
        have hres := key_setc (d := g) F.out.res (by omega) 1 (.int .i64 ((a + k : Nat) : Int))
        obtain ⟨n0, n1, n2, n3, n4, n5, n6, n7⟩ := hkey.cells
        obtain ⟨r0, r1, r2, r3, r4, r5, r6, r7⟩ := hres.zero
        have p0 := hres.free 0; have p1 := hres.free 1; have p2 := hres.free 2; have p3 := hres.free 3; have p4 := hres.free 4; have p5 := hres.free 5; have p6 := hres.free 6; have p7 := hres.free 7
        have g1 := F.out.rst.free 1
        have H3 := Lib.hid (And.intro hr3 hb3)
        clear hr3 hb3 hkey hres
        simp only [Int.natCast_add] at n0 n1 n2 n3 n4 n5 n6 n7 r0 r1 r2 r3 r4 r5 r6 r7 p0 p1 p2 p3 p4 p5 p6 p7
        go_wp2_with fail
        refine bodyPost_ret (v := keyV [x0, x1, x2, x3, x4, x5, x6, x7]) (by simp [results, Try.results50, go_sem, keyV, v8, r0, r1, r2, r3, r4, r5, r6, r7]) rfl ⟨rfl, ?_, ?_⟩
        · have h3 := H3.out
          rw [Int.natCast_add] at h3
          exact rst_set8 h3.1 hlt _ _ _ _ _ _ _ _
        · have h3 := H3.out
          rw [Int.natCast_add] at h3
          exact but_set8 ((But.of_below F.out.bel).trans h3.2) (Nat.le_refl _) _ _ _ _ _ _ _ _
      · have hne : ((e0 : Int) != 0) = true := by rw [bne_iff_ne]; omega
        have c1 := F.out.rst.cells
        obtain ⟨k0, k1, k2, k3⟩ := c1
        obtain ⟨hr3, hb3⟩ := F.out.rst.faulted e0 a he hat
        have hres := key_setc (d := g) (key_setc (d := g) F.out.res (by omega) 2 (.int .i64 (e0 : Int))) (by omega) 3 (.int .i64 (a : Int))
        have hzer := key_setc (d := g) (key_setc (d := g) F.out.zer (by omega) 2 (.int .i64 (e0 : Int))) (by omega) 3 (.int .i64 (a : Int))
        obtain ⟨n0, n1, n2, n3, n4, n5, n6, n7⟩ := hzer.zero
        obtain ⟨r0, r1, r2, r3, r4, r5, r6, r7⟩ := hres.zero
        have p0 := hres.free 0; have p1 := hres.free 1; have p2 := hres.free 2; have p3 := hres.free 3; have p4 := hres.free 4; have p5 := hres.free 5; have p6 := hres.free 6; have p7 := hres.free 7
        have g2 := F.out.rst.free 2
        have g3 := F.out.rst.free 3
        have H3 := Lib.hid (And.intro hr3 hb3)
        clear hr3 hb3 hres hzer
        go_wp2_with fail
        refine bodyPost_ret (v := keyV zero8) (by simp [results, Try.results50, go_sem, keyV, v8, zero8, r0, r1, r2, r3, r4, r5, r6, r7]) rfl ⟨rfl, rst_set8 H3.out.1 hlt _ _ _ _ _ _ _ _, but_set8 ((But.of_below F.out.bel).trans H3.out.2) (Nat.le_refl _) _ _ _ _ _ _ _ _⟩
  · have hF : fieldF zero8 keyR l ⟨a, y, f⟩ = (zero8, ⟨a, y, f⟩) := by unfold fieldF; rw [if_neg hz]
    rw [hF]
    obtain ⟨r0, r1, r2, r3, r4, r5, r6, r7⟩ := hR.zero
    have G := Lib.hid (And.intro h2 hb0)
    clear h hF h2 hb0 hR hZ hbel
    by_cases hy : y = 0
    · have hf : ((f : Int) == 0) = false := by rw [beq_eq_false_iff_ne]; omega
      subst hy
      go_enter Try.func50, Try.ntmps50
      go_wp2_with fail
      refine bodyPost_ret (v := keyV zero8) (by simp [results, Try.results50, go_sem, keyV, v8, zero8, r0, r1, r2, r3, r4, r5, r6, r7]) rfl ⟨rfl, G.out.1, G.out.2⟩
    · have hyy : ((y : Int) == 0) = false := by rw [beq_eq_false_iff_ne]; omega
      go_enter Try.func50, Try.ntmps50
      go_wp2_with fail
      refine bodyPost_ret (v := keyV zero8) (by simp [results, Try.results50, go_sem, keyV, v8, zero8, r0, r1, r2, r3, r4, r5, r6, r7]) rfl ⟨rfl, G.out.1, G.out.2⟩
set_option maxHeartbeats 1000000 in
set_option maxRecDepth 100000 in
theorem rkey_calls (g : Nat) (A : Option Addr) (c : Nat) (l : List UInt8) (s : Rs) (W : World) (h : Rst g A c l s W) :
    Calls Try.prog 23 #[.pointer (some ⟨g, 0, none⟩)] W fun e W' => e = .returned (keyV (fieldF zero8 keyR l s).1) ∧ Rst g A c l (fieldF zero8 keyR l s).2 W' ∧ But g W W' := by
  have hlt := (Array.getElem?_eq_some_iff.1 h.box).1
  have hb1 := below_alloc1 W (.cells #[.int .u8 0, .int .u8 0, .int .u8 0, .int .u8 0, .int .u8 0, .int .u8 0, .int .u8 0, .int .u8 0] 55)
  have hc := fieldK_calls g A c l s _ (h.below hb1)
  have hk8 : (fieldF zero8 keyR l s).1.length = 8 := by
    unfold fieldF
    split
    · split
      · exact keyR_len _
      · rfl
    · rfl
  have hz : KeyAt W.heap.size zero8 (W.alloc (.cells #[.int .u8 0, .int .u8 0, .int .u8 0, .int .u8 0, .int .u8 0, .int .u8 0, .int .u8 0, .int .u8 0] 55)) := heap_alloc_new _ _
  have hsz : W.heap.size < (W.alloc (.cells #[.int .u8 0, .int .u8 0, .int .u8 0, .int .u8 0, .int .u8 0, .int .u8 0, .int .u8 0, .int .u8 0] 55)).heap.size := by simp
  obtain ⟨R, hR⟩ : ∃ R, R = fieldF zero8 keyR l s := ⟨_, rfl⟩
  rw [← hR] at hc hk8 ⊢
  obtain ⟨n, s'⟩ := R
  simp only at hc hk8 ⊢
  obtain ⟨x0, x1, x2, x3, x4, x5, x6, x7, rfl⟩ := eight hk8
  have G := Lib.hid (And.intro hc (And.intro hb1 hz))
  clear hc hR h hb1 hz
  go_enter Try.func23, Try.ntmps23
  go_wp2_with fail
  generalize W.alloc (.cells #[.int .u8 0, .int .u8 0, .int .u8 0, .int .u8 0, .int .u8 0, .int .u8 0, .int .u8 0, .int .u8 0] 55) = W1 at G hsz ⊢
  refine G.out.1.mono ?_
  rintro e W2 ⟨rfl, hr, hb⟩
  have hz2 : KeyAt W.heap.size zero8 W2 := hb.heap G.out.2.2 (by omega)
  obtain ⟨r0, r1, r2, r3, r4, r5, r6, r7⟩ := hz2.zero
  have f0 := hz2.free 0; have f1 := hz2.free 1; have f2 := hz2.free 2; have f3 := hz2.free 3; have f4 := hz2.free 4; have f5 := hz2.free 5; have f6 := hz2.free 6; have f7 := hz2.free 7
  have H := Lib.hid (And.intro hr ((But.of_below G.out.2.1).trans hb))
  clear hr hb hz2
  unfold keyV
  simp only [List.map_cons, List.map_nil, v8]
  go_wp2_with fail
  refine bodyPost_ret (v := keyV [x0, x1, x2, x3, x4, x5, x6, x7]) (by simp [results, Try.results23, go_sem, keyV, v8, r0, r1, r2, r3, r4, r5, r6, r7]) rfl ⟨rfl, ?_, ?_⟩
  · exact rst_set8 H.out.1 hlt _ _ _ _ _ _ _ _
  · exact but_set8 H.out.2 (Nat.le_refl _) _ _ _ _ _ _ _ _
end Go.Proofs.Ytinilglljjffjaa.Cd
