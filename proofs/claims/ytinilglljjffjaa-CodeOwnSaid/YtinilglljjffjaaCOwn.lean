/- The walk of the law: what was written may be written over, and so may what was handed in; who has nothing. -/
import Derived.Test.YtinilglljjffjaaCOwnH
import Derived.Test.YtinilglljjffjaaCKeyEq
import Derived.Test.YtinilglljjffjaaCOneLaw
namespace Go.Proofs.Ytinilglljjffjaa.Cd
set_option linter.unusedVariables false
set_option linter.unusedSimpArgs false
open Go.RowKit
open Go.Proofs.Ytinilglljjffjaa.Num

theorem endF_end (lb : List UInt8) : endF lb ⟨lb.length, 0, 0⟩ = ⟨lb.length, 0, 0⟩ := by
  have h : leftF lb ⟨lb.length, 0, 0⟩ = 0 := by
    unfold leftF
    simp
  unfold endF
  rw [h, if_neg (by decide)]
theorem read_next (lb : List UInt8) (k : Nat) (h : k < lb.length) : fieldF 0 oneF lb ⟨k, 0, 0⟩ = (lb[k].toNat, ⟨k + 1, 0, 0⟩) := by
  unfold fieldF
  rw [if_pos ⟨rfl, rfl⟩]
  simp only
  rw [List.drop_eq_getElem_cons h]
  rfl
set_option maxHeartbeats 8000000 in
set_option maxRecDepth 100000 in
theorem CodeOwn_walk (ab : Option Addr) (cb : Nat) (lb : List UInt8) (f : Fd) (W : World) (hrb : Row8 W ab lb) (hbn : ab = none → cb = 0) (hlb : lb.length ≤ 9223372036854775807) (hok : f.Ok) :
    Calls Try.prog 7 #[.slice ab lb.length cb, .agg f.cells] W fun e W' => e = .returned (.bool true) ∧ Below W.heap.size W W' := by
  have hx := heap_alloc_new W (.cells f.cells 33)
  have hbx := below_alloc1 W (.cells f.cells 33)
  obtain ⟨W0, hW0⟩ : ∃ W0, W0 = W.alloc (.cells f.cells 33) := ⟨_, rfl⟩
  rw [← hW0] at hx hbx
  have hbf : W.heap.size < W0.heap.size := (Array.getElem?_eq_some_iff.1 hx).1
  obtain ⟨k0, k1, k2, k3⟩ := fd_cells hx
  have hsz := txt_size f.s
  replace hW0 : W.alloc (.cells #[.int .u8 (f.k : Int), .int .u64 (f.n : Int), .string (txt f.s), .int .i64 f.most] 33) = W0 := hW0.symm
  unfold Fd.cells
  by_cases h1 : 65536 < lb.length
  · have h1i : (65536 : Int) < (lb.length : Int) := by omega
    have G := Lib.hid hbx
    clear hbx hrb hlb h1
    go_enter Try.func7, Try.ntmps7
    go_wp2_with fail
    refine (alive_calls W0).mono ?_
    rintro e w2 ⟨rfl, hb2⟩
    go_wp2_with fail
    go_ret
    exact ⟨rfl, G.out.trans (hb2.mono G.out.size)⟩
  · by_cases h2 : 65536 < f.s.length
    · have h1i : ¬ (65536 : Int) < (lb.length : Int) := by omega
      have h2i : (65536 : Int) < (f.s.length : Int) := by omega
      have G := Lib.hid hbx
      clear hbx hrb hlb h1 h2
      go_enter Try.func7, Try.ntmps7
      go_wp2_with fail
      refine (alive_calls W0).mono ?_
      rintro e w2 ⟨rfl, hb2⟩
      go_wp2_with fail
      go_ret
      exact ⟨rfl, G.out.trans (hb2.mono G.out.size)⟩
    · have h1i : ¬ (65536 : Int) < (lb.length : Int) := by omega
      have h2i : ¬ (65536 : Int) < (f.s.length : Int) := by omega
      have hml := encF_len f
      obtain ⟨m, hm⟩ : ∃ m, m = encF f := ⟨_, rfl⟩
      have G := Lib.hid (And.intro hx (And.intro hbx (And.intro hrb (And.intro hbn (And.intro hok (And.intro hm (And.intro (show lb.length ≤ 65536 from by omega) (show m.length ≤ 70000 from by rw [hm]; omega))))))))
      clear hx hbx hrb hbn hok hm hml hlb h1 h2
      go_enter Try.func7, Try.ntmps7
      go_wp2_with fail
      have hT := Two.new W0
      have hb2 : Below W0.heap.size W0 ((W0.alloc (.cells #[.slice none 0 0] 27)).alloc (.cells #[.slice none 0 0] 29)) := (below_alloc1 _ _).alloc (by simp) _
      have hs2 : W0.heap.size + 1 < ((W0.alloc (.cells #[.slice none 0 0] 27)).alloc (.cells #[.slice none 0 0] 29)).heap.size := by simp
      have H := Lib.hid (And.intro hT hb2)
      clear hT hb2 k0 k1 k2 k3 hW0
      generalize (W0.alloc (.cells #[.slice none 0 0] 27)).alloc (.cells #[.slice none 0 0] 29) = W2 at H hs2 ⊢
      refine (write_calls W0.heap.size W0.heap.size (W0.heap.size + 1) _ _ [] [] f G.out.2.2.2.2.1 W2 H.out.1 (Nat.le_refl _) (by omega) (by omega) ⟨by simp; omega, by simp; omega⟩).mono ?_
      rintro e W3 ⟨rfl, v1, v2, hT3, hb3⟩
      rw [List.nil_append, ← G.out.2.2.2.2.2.1] at hT3
      have hb3 := H.out.2.trans hb3
      have hs3 := hT3.w2.box.lt
      have K3 := Lib.hid (And.intro hT3 (And.intro hb3 (And.intro (hT3.w1.own.lt) (hT3.w2.own.lt))))
      clear hT3 hb3 H hs2
      go_wp2_with fail
      refine (bytes_calls W0.heap.size W0.heap.size v1 m W3 K3.out.1.w1 (by have := G.out.2.2.2.2.2.2.2; omega)).mono ?_
      rintro e W4 ⟨v4, rfl, ho4, hb4⟩
      obtain ⟨A4, c4, rfl, _⟩ := ho4.row
      have hlt4 := hb4.size
      have K4 := Lib.hid (And.intro ho4 hb4)
      clear ho4 hb4
      go_wp2_with fail
      go_loopw [33] (fun i wr => ∃ (k : Nat) (L : List UInt8), k ≤ m.length ∧ i = .int .i64 (k : Int) ∧ L.length = m.length ∧ Own8 wr W3.heap.size 5 (.slice A4 L.length c4) L ∧ Below W3.heap.size W3 wr) (fun i _ => m.length - (intOf i).toNat)
      case atStart => exact ⟨0, m, by omega, rfl, rfl, K4.out.1, K4.out.2⟩
      case round =>
        obtain ⟨k, L, hk, rfl, hLm, hoL, hbL⟩ := hrel
        by_cases hlt : k < m.length
        · have hkL : k < L.length := by omega
          obtain ⟨g, cg, hv, hg, hcell, hfree, hset⟩ := hoL.at_ hkL
          injection hv with hv1 hv2 hv3
          subst hv1
          subst hv3
          obtain ⟨x, hx⟩ : ∃ x, x = L[k] := ⟨_, rfl⟩
          rw [← hx] at hcell
          have hinc := incr8 x
          obtain ⟨z, hz⟩ : ∃ z, z = x + 1 := ⟨_, rfl⟩
          rw [← hz] at hinc
          have HL := Lib.hid (And.intro (hset z) (And.intro hbL (And.intro hLm hg)))
          clear hset hbL hx hoL hv2 hz
          go_wp2_with fail
          have hsl : (L.set k z).length = L.length := List.length_set
          refine ⟨⟨k + 1, L.set k z, by omega, by go_num, by omega, by rw [hsl]; exact HL.out.1, HL.out.2.1.setCell (p := ⟨g, k, none⟩) hg _⟩, by (first | (simp [intOf]; done) | (simp [intOf]; omega))⟩
        · obtain rfl : k = m.length := by omega
          have hB5 := K3.out.2.1.trans (hbL.mono (by omega))
          have hbb := G.out.2.1.trans (hB5.mono (by omega))
          have h5 := hbL.size
          have K5 := Lib.hid (And.intro ((hbL.block _ (by omega)).trans ((K3.out.2.1.block _ hbf).trans G.out.1)) (And.intro hbb (And.intro (K3.out.1.below hbL) (G.out.2.2.1.below hbb))))
          clear hoL hbL hB5 hbb
          go_wp2_with (at_builtin; refine wpList_append8 rfl (Operand.const (.slice none 0 0)) (Operand.tmp 43) 25 rfl wr.heap.size 5 Try.underlying25 info8 (.slice none 0 0) [] lb ab cb rfl (Own8.nil _ _ _) rfl K5.out.2.2.2 G.out.2.2.2.1 (by have := G.out.2.2.2.2.2.2.1; simp; omega) (Nat.le_refl _) ?_; intro v6 w6 hown6 hgrow6; rw [List.nil_append] at hown6)
          obtain ⟨A6, c6, rfl, hr6, _, _, hn6⟩ := hown6.row
          have hA6 := own_block hown6
          have hb6 := below_of_grown hgrow6
          have h6 := hb6.size
          refine (newX_calls A6 c6 lb w6 hr6 hn6 (by have := G.out.2.2.2.2.2.2.1; omega)).mono ?_
          rintro e w7 ⟨gr, A5, c5, rfl, hr7, hb7, hgr, hA5⟩
          have hS7 : OwnSt W W0.heap.size W0.heap.size (W0.heap.size + 1) v1 v2 m m f gr A5 c5 lb ⟨0, 0, 0⟩ w7 := ⟨(hb7.block _ (by omega)).trans ((hb6.block _ (by omega)).trans K5.out.1), K5.out.2.1.trans ((hb6.mono K5.out.2.1.size).trans (hb7.mono (Nat.le_trans K5.out.2.1.size hb6.size))), (K5.out.2.2.1.below hb6).below hb7, hr7⟩
          have K7 := Lib.hid (And.intro (hown6.below hb7) (And.intro hS7 (And.intro hA6 hA5)))
          clear hown6 hgrow6 hr6 hb6 hr7 hb7 hS7 hA6 hA5
          go_wp2_with fail
          go_loopw [49] (fun i wz => ∃ (k : Nat) (L : List UInt8), k ≤ lb.length ∧ i = .int .i64 (k : Int) ∧ L.length = lb.length ∧ Own8 wz wr.heap.size 5 (.slice A6 L.length c6) L ∧ OwnSt W W0.heap.size W0.heap.size (W0.heap.size + 1) v1 v2 m m f gr A5 c5 lb ⟨0, 0, 0⟩ wz) (fun i _ => lb.length - (intOf i).toNat)
          case atStart => exact ⟨0, lb, by omega, rfl, rfl, K7.out.1, K7.out.2.1⟩
          case round =>
            obtain ⟨k, L, hk, rfl, hLm, hoL, hS⟩ := hrel
            by_cases hlt : k < lb.length
            · have hkL : k < L.length := by omega
              obtain ⟨g, cg, hv, hg, hcell, hfree, hset⟩ := hoL.at_ hkL
              injection hv with hv1 hv2 hv3
              subst hv1
              subst hv3
              obtain ⟨x, hx⟩ : ∃ x, x = L[k] := ⟨_, rfl⟩
              rw [← hx] at hcell
              have hinc := incr8 x
              obtain ⟨z, hz⟩ : ∃ z, z = x + 1 := ⟨_, rfl⟩
              rw [← hz] at hinc
              have hg2 := (K7.out.2.2.1 ⟨g, 0, none⟩ rfl).2
              simp only at hg2
              have hS' : OwnSt W W0.heap.size W0.heap.size (W0.heap.size + 1) v1 v2 m m f gr A5 c5 lb ⟨0, 0, 0⟩ (wr.setCell ⟨g, k, none⟩ (.int .u8 (z.toNat : Int))) := hS.but g (But.set _ _ _) (by omega) (by omega) (by omega) (fun q hq => by have := (K3.out.2.2.1 q hq).2; omega) (fun q hq => by have := (K3.out.2.2.2 q hq).2; omega) (by omega) (fun y hy => by have := K7.out.2.2.2 y hy; omega)
              have HL := Lib.hid (And.intro (hset z) (And.intro hS' (And.intro hLm hg)))
              clear hset hS hS' hx hoL hv2 hz
              go_wp2_with fail
              have hsl : (L.set k z).length = L.length := List.length_set
              refine ⟨⟨k + 1, L.set k z, by omega, by go_num, by omega, by rw [hsl]; exact HL.out.1, HL.out.2.1⟩, by (first | (simp [intOf]; done) | (simp [intOf]; omega))⟩
            · obtain rfl : k = lb.length := by omega
              have hf8 := fd_cells hS.fld
              obtain ⟨k0, k1, k2, k3⟩ := hf8
              have K8 := Lib.hid hS
              clear hS hoL
              go_wp2_with fail
              refine (write_nil W0.heap.size (W0.heap.size + 1) v2 m f G.out.2.2.2.2.1 wr K8.out.two.w2 (by omega) (by have := G.out.2.2.2.2.2.2.2; omega)).mono ?_
              rintro e w9 ⟨rfl, v9, hw9, ht9⟩
              have hS9 := K8.out.snd hw9 ht9 hbf (by omega) (by omega) (fun q hq => by have := (K3.out.2.2.2 q hq).2; omega) (fun x hx => by have h1 := K7.out.2.2.2 x hx; exact ⟨by omega, fun e => by have := (K3.out.2.2.2 _ e).2; omega⟩)
              have h9 := (Array.getElem?_eq_some_iff.1 hS9.fld).1
              have hg9 := (Array.getElem?_eq_some_iff.1 hS9.rst.box).1
              have hn9 := Two.new2 w9
              have hb9 : Below w9.heap.size w9 ((w9.alloc (.cells #[.slice none 0 0] 29)).alloc (.cells #[.slice none 0 0] 27)) := (below_alloc1 _ _).alloc (by simp) _
              have hz9 : ((w9.alloc (.cells #[.slice none 0 0] 29)).alloc (.cells #[.slice none 0 0] 27)).heap.size = w9.heap.size + 2 := by simp
              obtain ⟨k0, k1, k2, k3⟩ := fd_cells (hS9.below hb9).fld
              have K9b := Lib.hid hS9
              have K9 := Lib.hid (And.intro (hS9.below hb9) (And.intro hn9 hb9))
              clear hw9 ht9 hS9 hn9 hb9
              go_wp2_with fail
              generalize (w9.alloc (.cells #[.slice none 0 0] 29)).alloc (.cells #[.slice none 0 0] 27) = w10 at K9 hz9 k0 k1 k2 k3 ⊢
              refine (write_calls w9.heap.size (w9.heap.size + 1) w9.heap.size _ _ [] [] f G.out.2.2.2.2.1 w10 K9.out.2.1 (by omega) (Nat.le_refl _) (by omega) ⟨by have := G.out.2.2.2.2.2.2.2; simp; omega, by have := G.out.2.2.2.2.2.2.2; simp; omega⟩).mono ?_
              rintro e w11 ⟨rfl, va, vu, hT11, hb11⟩
              rw [List.nil_append, ← G.out.2.2.2.2.2.1] at hT11
              have hs11 := hb11.size
              have hbb := K9.out.2.2.trans hb11
              have hS11 : OwnZ W W0.heap.size (W0.heap.size) v1 m gr A5 c5 lb ⟨0, 0, 0⟩ w9.heap.size w9.heap.size vu w11 := ⟨K9b.out.rst.below hbb, K9b.out.bel.trans (hbb.mono K9b.out.bel.size), K9b.out.two.w1.below hbb, hT11.w2⟩
              have K11 := Lib.hid (And.intro (Below.refl w11.heap.size w11) hS11)
              clear hT11 hb11 hbb hS11 k0 k1 k2 k3 hz9
              go_wp2_with fail
              refine (bytes_nil w11).mono ?_
              rintro e w11 ⟨rfl, rfl⟩
              go_wp2_with fail
              refine (rnum_nil 9 w11).mono ?_
              rintro e w12 ⟨rfl, hb12⟩
              have K12 := Lib.hid (And.intro (K11.out.1.trans (hb12.mono K11.out.1.size)) (K11.out.2.below hb12))
              clear hb12
              go_wp2_with fail
              refine (rbyte_nil w12).mono ?_
              rintro e w13 ⟨rfl, hb13⟩
              have K13 := Lib.hid (And.intro (K12.out.1.trans (hb13.mono K12.out.1.size)) (K12.out.2.below hb13))
              clear hb13
              go_wp2_with fail
              refine (rbool_nil w13).mono ?_
              rintro e w14 ⟨rfl, hb14⟩
              have K14 := Lib.hid (And.intro (K13.out.1.trans (hb14.mono K13.out.1.size)) (K13.out.2.below hb14))
              clear hb14
              go_wp2_with fail
              have htx : txt [] = { data := #[] } := rfl
              refine (rtext_nil w14).mono ?_
              rintro e w15 ⟨rfl, hb15⟩
              have K15 := Lib.hid (And.intro (K14.out.1.trans (hb15.mono K14.out.1.size)) (K14.out.2.below hb15))
              clear hb15
              go_wp2_with fail
              have hun : keyV zero8 = .agg #[.int .u8 0, .int .u8 0, .int .u8 0, .int .u8 0, .int .u8 0, .int .u8 0, .int .u8 0, .int .u8 0] := rfl
              have heq : ∀ w, (Op.equalIn 10000 55 (.agg #[.int .u8 0, .int .u8 0, .int .u8 0, .int .u8 0, .int .u8 0, .int .u8 0, .int .u8 0, .int .u8 0]) (.agg #[.int .u8 0, .int .u8 0, .int .u8 0, .int .u8 0, .int .u8 0, .int .u8 0, .int .u8 0, .int .u8 0])).run Try.prog w = .ok true w := fun w => by
                have := run_keys_eq w zero8 zero8 rfl rfl
                rw [decide_eq_true rfl] at this
                exact this
              refine (rkey_nil w15).mono ?_
              rintro e w16 ⟨rfl, hb16⟩
              have K16 := Lib.hid (And.intro (K15.out.1.trans (hb16.mono K15.out.1.size)) (K15.out.2.below hb16))
              clear hb16
              go_wp2_with fail
              refine (left_nil w16).mono ?_
              rintro e w17 ⟨rfl, hb17⟩
              obtain ⟨Au, cu, hvu, _⟩ := K16.out.2.wu.own.row
              subst hvu
              have hZ17 := (K16.out.2.below hb17).below (below_alloc1 w17 (.cells #[.int .i64 4, .int .i64 0] 43))
              have hG17 : (w17.alloc (.cells #[.int .i64 4, .int .i64 0] 43)).heap[w17.heap.size]? = some (.cells #[.int .i64 4, .int .i64 0] 43 (0, 0)) := heap_alloc_new _ _
              have h17 : gr < w17.heap.size := by have := K16.out.1.size; have := hb17.size; have := K9.out.2.2.size; omega
              have K17 := Lib.hid (And.intro hZ17 hG17)
              clear hZ17 hG17 hb17 heq hun htx
              go_wp2_with fail
              generalize hbg : w17.heap.size = bg at K17 h17 ⊢
              generalize w17.alloc (.cells #[.int .i64 4, .int .i64 0] 43) = w18 at K17 ⊢
              clear hbg
              go_loopw [102] (fun i wz => ∃ (k : Nat), k ≤ lb.length ∧ i = .int .i64 (k : Int) ∧ OwnZ W W0.heap.size W0.heap.size v1 m gr A5 c5 lb ⟨k, 0, 0⟩ w9.heap.size w9.heap.size (.slice Au m.length cu) wz ∧ wz.heap[bg]? = some (.cells #[.int .i64 4, .int .i64 0] 43 (0, 0))) (fun i _ => lb.length - (intOf i).toNat)
              case atStart => exact ⟨0, by omega, rfl, K17.out.1, K17.out.2⟩
              case round =>
                obtain ⟨k, hk, rfl, hZ, hG⟩ := hrel
                by_cases hlt : k < lb.length
                · obtain ⟨yb, rfl, hcb⟩ : ∃ y, ab = some y ∧ ∀ i : Nat, ∀ h : i < lb.length, W.cell? (y.add i) = some (.int .u8 (lb[i].toNat : Int)) := by
                    rcases G.out.2.2.1 with h | h
                    · rw [h] at hlt; simp at hlt
                    · exact h
                  have hcb := hcb k hlt
                  have hcell : ∀ w', Below W.heap.size W w' → w'.cell? (yb.add k) = some (.int .u8 (lb[k].toNat : Int)) := fun w' hb => (hb.cell (World.block_lt_of_cell? W _ hcb)).trans hcb
                  obtain ⟨x, hx⟩ : ∃ x, x = lb[k].toNat := ⟨_, rfl⟩
                  have hrd := rbyte_calls gr A5 c5 lb ⟨k, 0, 0⟩ wr.drew hZ.rst.drew
                  rw [read_next lb k hlt] at hrd
                  simp only at hrd
                  rw [← hx] at hrd hcell
                  have hrd2 : Calls Try.prog 20 #[.pointer (some ⟨gr, 0, none⟩)] wr.drew fun e W' => e = .returned (.int .u8 (x : Int)) ∧ W'.cell? (yb.add k) = some (.int .u8 (x : Int)) ∧ OwnZ W W0.heap.size W0.heap.size v1 m gr A5 c5 lb ⟨k + 1, 0, 0⟩ w9.heap.size w9.heap.size (.slice Au m.length cu) W' ∧ W'.heap[bg]? = some (.cells #[.int .i64 4, .int .i64 0] 43 (0, 0)) := by
                    refine hrd.mono ?_
                    rintro e W' ⟨rfl, hr, hb⟩
                    have hz := hZ.read hr hb.drew (by omega) (by omega) (by omega) (fun q hq => by have := (K3.out.2.2.1 q hq).2; omega) hg9
                    exact ⟨rfl, hcell W' hz.bel, hz, hb.drew.heap hG (by omega)⟩
                  have c0 := hcell wr hZ.bel
                  have hki : (k : Int) < (lb.length : Int) := by omega
                  have hk0 : (0 : Int) ≤ (k : Int) := by omega
                  have HR := Lib.hid hrd2
                  clear hrd hrd2 hcell hcb hZ hG hx
                  go_wp2_with fail
                  go_region_held3 (fun W' => W'.cell? (yb.add k) = some (.int .u8 (x : Int))) (first | exact c0 | exact h9s) (first | (go_at_call 20; ((with_reducible refine (HR.out).mono ?_); rintro e w' ⟨rfl, h9s, h9z, h9g⟩)))
                  have H9 := Lib.hid (And.intro h9z h9g)
                  clear h9z h9g h9s HR c0
                  go_wp2_with fail
                  go_roundw
                  case rel => exact ⟨k + 1, by omega, by go_num, H9.out.1, H9.out.2⟩
                  case measure => (first | (simp [intOf]; done) | (simp [intOf]; omega))
                · obtain rfl : k = lb.length := by omega
                  obtain ⟨hu, hur⟩ : wr.cell? ⟨w9.heap.size, 0, none⟩ = some (.slice Au m.length cu) ∧ True := ⟨hZ.wu.box.cell, trivial⟩
                  have hgc : ∀ w' : World, w'.heap[bg]? = some (.cells #[.int .i64 4, .int .i64 0] 43 (0, 0)) → w'.cell? ⟨bg, 0, none⟩ = some (.int .i64 4) ∧ w'.cell? ⟨bg, 1, none⟩ = some (.int .i64 0) := fun w' h => by simp [World.cell?, h]
                  have s0 : wr.cell? ⟨w9.heap.size, 0, none⟩ = some (.slice Au m.length cu) ∧ wr.cell? ⟨bg, 0, none⟩ = some (.int .i64 4) ∧ wr.cell? ⟨bg, 1, none⟩ = some (.int .i64 0) := ⟨hu, hgc _ hG⟩
                  have hBy : Calls Try.prog 13 #[.pointer (some ⟨W0.heap.size, 0, none⟩)] wr.drew fun e W' => ∃ A c, e = .returned (.slice A m.length c) ∧ Row8 W' A m ∧ Row8 W' Au m ∧ (W'.cell? ⟨w9.heap.size, 0, none⟩ = some (.slice Au m.length cu) ∧ W'.cell? ⟨bg, 0, none⟩ = some (.int .i64 4) ∧ W'.cell? ⟨bg, 1, none⟩ = some (.int .i64 0)) ∧ OwnZ W W0.heap.size W0.heap.size v1 m gr A5 c5 lb ⟨lb.length, 0, 0⟩ w9.heap.size w9.heap.size (.slice Au m.length cu) W' ∧ W'.heap[bg]? = some (.cells #[.int .i64 4, .int .i64 0] 43 (0, 0)) := by
                    have hd : Below wr.heap.size wr wr.drew := (Below.refl _ _).drew
                    refine (bytes_calls W0.heap.size W0.heap.size v1 m wr.drew (hZ.below hd).w1 (by have := G.out.2.2.2.2.2.2.2; omega)).mono ?_
                    rintro e W' ⟨v', rfl, ho, hb⟩
                    obtain ⟨A, c, rfl, hr, _⟩ := ho.row
                    have hz := (hZ.below hd).below hb
                    have hg := (hb.block _ (Array.getElem?_eq_some_iff.1 hG).1).trans hG
                    obtain ⟨A', c', e', hr', _⟩ := hz.wu.own.row
                    injection e' with e1 e2 e3
                    subst e1
                    exact ⟨A, c, rfl, hr, hr', ⟨hz.wu.box.cell, hgc _ hg⟩, hz, hg⟩
                  have hE := fun (w' : World) (hz : OwnZ W W0.heap.size W0.heap.size v1 m gr A5 c5 lb ⟨lb.length, 0, 0⟩ w9.heap.size w9.heap.size (.slice Au m.length cu) w') (hg : w'.heap[bg]? = some (.cells #[.int .i64 4, .int .i64 0] 43 (0, 0))) =>
                    show Calls Try.prog 17 #[.pointer none] w' fun e W' => e = .returned (.agg #[.int .i64 4, .int .i64 0]) ∧ (W'.cell? ⟨w9.heap.size, 0, none⟩ = some (.slice Au m.length cu) ∧ W'.cell? ⟨bg, 0, none⟩ = some (.int .i64 4) ∧ W'.cell? ⟨bg, 1, none⟩ = some (.int .i64 0)) ∧ OwnZ W W0.heap.size W0.heap.size v1 m gr A5 c5 lb ⟨lb.length, 0, 0⟩ w9.heap.size w9.heap.size (.slice Au m.length cu) W' ∧ W'.heap[bg]? = some (.cells #[.int .i64 4, .int .i64 0] 43 (0, 0)) from by
                    refine (end_nil w').mono ?_
                    rintro e W' ⟨rfl, hb⟩
                    have hg2 := (hb.block _ (Array.getElem?_eq_some_iff.1 hg).1).trans hg
                    exact ⟨rfl, ⟨(hz.below hb).wu.box.cell, hgc _ hg2⟩, hz.below hb, hg2⟩
                  have hF := fun (w' : World) (hz : OwnZ W W0.heap.size W0.heap.size v1 m gr A5 c5 lb ⟨lb.length, 0, 0⟩ w9.heap.size w9.heap.size (.slice Au m.length cu) w') (hg : w'.heap[bg]? = some (.cells #[.int .i64 4, .int .i64 0] 43 (0, 0))) =>
                    show Calls Try.prog 24 #[.pointer none] w' fun e W' => e = .returned (.agg #[.int .i64 4, .int .i64 0]) ∧ (W'.cell? ⟨w9.heap.size, 0, none⟩ = some (.slice Au m.length cu) ∧ W'.cell? ⟨bg, 0, none⟩ = some (.int .i64 4) ∧ W'.cell? ⟨bg, 1, none⟩ = some (.int .i64 0)) ∧ OwnZ W W0.heap.size W0.heap.size v1 m gr A5 c5 lb ⟨lb.length, 0, 0⟩ w9.heap.size w9.heap.size (.slice Au m.length cu) W' ∧ W'.heap[bg]? = some (.cells #[.int .i64 4, .int .i64 0] 43 (0, 0)) from by
                    refine (fault_nil w').mono ?_
                    rintro e W' ⟨rfl, hb⟩
                    have hg2 := (hb.block _ (Array.getElem?_eq_some_iff.1 hg).1).trans hg
                    exact ⟨rfl, ⟨(hz.below hb).wu.box.cell, hgc _ hg2⟩, hz.below hb, hg2⟩
                  have hR := fun (w' : World) (hz : OwnZ W W0.heap.size W0.heap.size v1 m gr A5 c5 lb ⟨lb.length, 0, 0⟩ w9.heap.size w9.heap.size (.slice Au m.length cu) w') (hg : w'.heap[bg]? = some (.cells #[.int .i64 4, .int .i64 0] 43 (0, 0))) =>
                    show Calls Try.prog 17 #[.pointer (some ⟨gr, 0, none⟩)] w' fun e W' => e = .returned (.agg #[.int .i64 0, .int .i64 0]) ∧ (W'.cell? ⟨w9.heap.size, 0, none⟩ = some (.slice Au m.length cu) ∧ W'.cell? ⟨bg, 0, none⟩ = some (.int .i64 4) ∧ W'.cell? ⟨bg, 1, none⟩ = some (.int .i64 0)) ∧ OwnZ W W0.heap.size W0.heap.size v1 m gr A5 c5 lb ⟨lb.length, 0, 0⟩ w9.heap.size w9.heap.size (.slice Au m.length cu) W' ∧ W'.heap[bg]? = some (.cells #[.int .i64 4, .int .i64 0] 43 (0, 0)) from by
                    have hc := end_calls gr A5 c5 lb ⟨lb.length, 0, 0⟩ w' hz.rst
                    have he : endF lb ⟨lb.length, 0, 0⟩ = ⟨lb.length, 0, 0⟩ := endF_end lb
                    rw [he] at hc
                    refine hc.mono ?_
                    rintro e W' ⟨rfl, hr, hb⟩
                    have hz2 := hz.read hr hb (by omega) (by omega) (by omega) (fun q hq => by have := (K3.out.2.2.1 q hq).2; omega) hg9
                    have hg2 := hb.heap hg (by omega)
                    exact ⟨rfl, ⟨hz2.wu.box.cell, hgc _ hg2⟩, hz2, hg2⟩
                  have hA := fun (w' : World) (hz : OwnZ W W0.heap.size W0.heap.size v1 m gr A5 c5 lb ⟨lb.length, 0, 0⟩ w9.heap.size w9.heap.size (.slice Au m.length cu) w') (hg : w'.heap[bg]? = some (.cells #[.int .i64 4, .int .i64 0] 43 (0, 0))) =>
                    show Calls Try.prog 9 #[] w' fun e W' => e = .returned (.bool true) ∧ (W'.cell? ⟨w9.heap.size, 0, none⟩ = some (.slice Au m.length cu) ∧ W'.cell? ⟨bg, 0, none⟩ = some (.int .i64 4) ∧ W'.cell? ⟨bg, 1, none⟩ = some (.int .i64 0)) ∧ Below W.heap.size W W' from by
                    refine (alive_calls w').mono ?_
                    rintro e W' ⟨rfl, hb⟩
                    have hg2 := (hb.block _ (Array.getElem?_eq_some_iff.1 hg).1).trans hg
                    exact ⟨rfl, ⟨(hz.below hb).wu.box.cell, hgc _ hg2⟩, (hz.below hb).bel⟩
                  have HC := Lib.hid (And.intro hBy (And.intro hE (And.intro hF (And.intro hR hA))))
                  clear hBy hE hF hR hA hgc hZ hG hu hur
                  obtain ⟨t0, t1, t2⟩ := s0
                  go_wp2_with fail
                  go_region_held3 (fun W' => W'.cell? ⟨w9.heap.size, 0, none⟩ = some (.slice Au m.length cu) ∧ W'.cell? ⟨bg, 0, none⟩ = some (.int .i64 4) ∧ W'.cell? ⟨bg, 1, none⟩ = some (.int .i64 0)) (first | exact ⟨t0, t1, t2⟩ | exact s5 | exact s4 | exact s3 | exact s2 | exact s1) (first | (go_at_call 13; ((with_reducible refine (HC.out.1).mono ?_); rintro e w' ⟨AB, cB, rfl, hrB, hrB2, s1, z1, y1⟩)) | (go_at_call 12; ((with_reducible refine (same_calls AB cB m Au cu m _ hrB hrB2).mono ?_); rintro e w' ⟨rfl, rfl⟩)) | (go_at_call 17; ((with_reducible refine (HC.out.2.1 _ z1 y1).mono ?_); rintro e w' ⟨rfl, s2, z2, y2⟩)) | (go_at_call 24; ((with_reducible refine (HC.out.2.2.1 _ z2 y2).mono ?_); rintro e w' ⟨rfl, s3, z3, y3⟩)) | (go_at_call 17; ((with_reducible refine (HC.out.2.2.2.1 _ z3 y3).mono ?_); rintro e w' ⟨rfl, s4, z4, y4⟩)) | (go_at_call 9; ((with_reducible refine (HC.out.2.2.2.2 _ z4 y4).mono ?_); rintro e w' ⟨rfl, s5, b5⟩)))
                  go_wp2_with fail
                  go_ret
                  exact ⟨rfl, b5⟩
end Go.Proofs.Ytinilglljjffjaa.Cd
