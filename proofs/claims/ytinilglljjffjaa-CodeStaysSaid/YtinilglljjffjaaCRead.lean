/- The walk of the law's read: both readers go on; what it answers is not looked at. -/
import Derived.Test.YtinilglljjffjaaCRd
import Derived.Test.YtinilglljjffjaaCOneLaw
namespace Go.Proofs.Ytinilglljjffjaa.Cd
set_option linter.unusedVariables false
set_option linter.unusedSimpArgs false
open Go.RowKit
open Go.Proofs.Ytinilglljjffjaa.Num

set_option maxHeartbeats 4000000 in
set_option maxRecDepth 100000 in
theorem lread_calls (B gr gv : Nat) (A Av : Option Addr) (c cv : Nat) (l : List UInt8) (s sv : Rs) (f : Fd) (hok : f.Ok) (W : World) (hr : Rst gr A c l s W) (hq : Qst gv Av cv l sv W) (hg : gr < gv) (hAv : ∀ x, Av = some x → gr < x.block) (hBr : B ≤ gr) (hBv : B ≤ gv) :
    Calls Try.prog 16 #[.pointer (some ⟨gr, 0, none⟩), .pointer (some ⟨gv, 0, none⟩), .agg f.cells] W fun e W' => ∃ (b : Bool) (s' sv' : Rs), e = .returned (.bool b) ∧ Rst gr A c l s' W' ∧ Qst gv Av cv l sv' W' ∧ Below B W W' := by
  have hgl := (Array.getElem?_eq_some_iff.1 hq.box).1
  have hBW : B ≤ W.heap.size := by omega
  have hb : Below W.heap.size W (W.alloc (.cells #[.int .u8 (f.k : Int), .int .u64 (f.n : Int), .string (txt f.s), .int .i64 f.most] 33)) := below_alloc1 _ _
  have hx : (W.alloc (.cells #[.int .u8 (f.k : Int), .int .u64 (f.n : Int), .string (txt f.s), .int .i64 f.most] 33)).heap[W.heap.size]? = some (.cells f.cells 33 (0, 0)) := heap_alloc_new _ _
  obtain ⟨k0, k1, k2, k3⟩ := fd_cells hx
  have G := Lib.hid (And.intro (hr.below hb) (And.intro (hq.below hb) (And.intro (hb.mono hBW) hx)))
  obtain ⟨W0, hW0⟩ : ∃ W0, W0 = W.alloc (.cells #[.int .u8 (f.k : Int), .int .u64 (f.n : Int), .string (txt f.s), .int .i64 f.most] 33) := ⟨_, rfl⟩
  rw [← hW0] at G k0 k1 k2 k3
  replace hW0 : W.alloc (.cells #[.int .u8 (f.k : Int), .int .u64 (f.n : Int), .string (txt f.s), .int .i64 f.most] 33) = W0 := hW0.symm
  clear hb hx hr hq
  unfold Fd.cells
  have hj5 : f.k % 5 = 0 ∨ f.k % 5 = 1 ∨ f.k % 5 = 2 ∨ f.k % 5 = 3 ∨ f.k % 5 = 4 := by omega
  rcases hj5 with hj | hj | hj | hj | hj
  · have j1 : (f.k : Int).tmod 5 = 0 := by rw [mod_five, hj]; rfl
    have j2 : (f.k : Int) % 5 = 0 := by omega
    have hP : Calls Try.prog 19 #[.pointer (some ⟨gr, 0, none⟩), .int .u64 (f.n : Int)] W0.drew fun e W' => ∃ (n9 : Nat) (s' : Rs), e = .returned (.int .u64 (n9 : Int)) ∧ (W'.cell? ⟨W.heap.size, 1, none⟩ = some (.int .u64 (f.n : Int))) ∧ Rst gr A c l s' W' ∧ Qst gv Av cv l sv W' ∧ Below B W W' ∧ W'.heap[W.heap.size]? = some (.cells f.cells 33 (0, 0)) := by
      refine (rnum_calls gr A c l s f.n hok.n W0.drew G.out.1.drew).mono ?_
      rintro e W' ⟨rfl, hr9, hb9⟩
      have hx9 := But.heap hb9.drew G.out.2.2.2 (by omega)
      obtain ⟨k0, k1, k2, k3⟩ := fd_cells hx9
      exact ⟨_, _, rfl, k1, hr9, G.out.2.1.turn hb9.drew (by omega) (by simp [Value.ownBlock]) (fun x hx => ⟨by have := hAv x hx; omega, by simp [Value.ownBlock]⟩), G.out.2.2.1.trans (hb9.drew.below hBr (Nat.le_trans hBW G.out.2.2.1.size)), hx9⟩
    have hQ : ∀ w s', Rst gr A c l s' w → Qst gv Av cv l sv w → Below B W w → w.heap[W.heap.size]? = some (.cells f.cells 33 (0, 0)) → Calls Try.prog 37 #[.pointer (some ⟨gv, 0, none⟩), .int .u64 (f.n : Int)] w fun e W' => ∃ (n9 : Nat) (sv' : Rs), e = .returned (.int .u64 (n9 : Int)) ∧ (W'.cell? ⟨W.heap.size, 1, none⟩ = some (.int .u64 (f.n : Int))) ∧ Rst gr A c l s' W' ∧ Qst gv Av cv l sv' W' ∧ Below B W W' := by
      intro w s' h1 h2 h3 h4
      refine (qnum_calls gv Av cv l sv f.n hok.n w h2).mono ?_
      rintro e W' hh
      obtain ⟨n9, s9, rfl, hn9, hq9, hb9⟩ := hh
      have hx9 := But.heap hb9 h4 (by omega)
      obtain ⟨k0, k1, k2, k3⟩ := fd_cells hx9
      exact ⟨_, _, rfl, k1, h1.turn hb9 (by omega) (by simp [Value.ownBlock]) (fun x hx => ⟨by have := h1.far x hx; omega, by simp [Value.ownBlock]⟩), hq9, h3.trans (hb9.below hBv (Nat.le_trans hBW h3.size))⟩
    have HP := Lib.hid (And.intro hP hQ)
    clear hP hQ hj
    go_enter Try.func16, Try.ntmps16
    go_wp2_with fail
    go_region_held3 (fun W' => W'.cell? ⟨W.heap.size, 1, none⟩ = some (.int .u64 (f.n : Int))) (first | exact k1 | exact p9s | exact q9s) (first | (go_at_call 19; ((with_reducible refine (HP.out.1).mono ?_); rintro e w' ⟨n9, s9, rfl, p9s, p9r, p9q, p9b, p9x⟩)) | (go_at_call 37; ((with_reducible refine (HP.out.2 _ _ p9r p9q p9b p9x).mono ?_); rintro e w' ⟨m9, sv9, rfl, q9s, q9r, q9q, q9b⟩)))
    go_wp2_with fail
    go_ret
    exact ⟨_, _, _, rfl, q9r, q9q, q9b⟩
  · have j1 : (f.k : Int).tmod 5 = 1 := by rw [mod_five, hj]; rfl
    have j2 : (f.k : Int) % 5 = 1 := by omega
    clear hj
    go_enter Try.func16, Try.ntmps16
    go_wp2_with fail
    refine (rbyte_calls gr A c l s W0 G.out.1).mono ?_
    rintro e W1 ⟨rfl, hr1, hb1⟩
    have hq1 := G.out.2.1.turn hb1 (by omega) (by simp [Value.ownBlock]) (fun x hx => ⟨by have := hAv x hx; omega, by simp [Value.ownBlock]⟩)
    have H1 := Lib.hid (And.intro hr1 (And.intro hq1 (G.out.2.2.1.trans (hb1.below hBr (Nat.le_trans hBW G.out.2.2.1.size)))))
    clear hr1 hq1 hb1 k0 k1 k2 k3
    go_wp2_with fail
    refine (qbyte_calls gv Av cv l sv W1 H1.out.2.1).mono ?_
    rintro e W2 ⟨x2, sv2, rfl, hq2, hb2⟩
    have H2 := Lib.hid (And.intro (H1.out.1.turn hb2 (by omega) (by simp [Value.ownBlock]) (fun x hx => ⟨by have := H1.out.1.far x hx; omega, by simp [Value.ownBlock]⟩)) (And.intro hq2 (H1.out.2.2.trans (hb2.below hBv (Nat.le_trans hBW H1.out.2.2.size)))))
    clear hq2 hb2
    go_wp2_with fail
    go_ret
    exact ⟨_, _, _, rfl, H2.out.1, H2.out.2.1, H2.out.2.2⟩
  · have j1 : (f.k : Int).tmod 5 = 2 := by rw [mod_five, hj]; rfl
    have j2 : (f.k : Int) % 5 = 2 := by omega
    clear hj
    go_enter Try.func16, Try.ntmps16
    go_wp2_with fail
    refine (rbool_calls gr A c l s W0 G.out.1).mono ?_
    rintro e W1 ⟨rfl, hr1, hb1⟩
    have hq1 := G.out.2.1.turn hb1 (by omega) (by simp [Value.ownBlock]) (fun x hx => ⟨by have := hAv x hx; omega, by simp [Value.ownBlock]⟩)
    have H1 := Lib.hid (And.intro hr1 (And.intro hq1 (G.out.2.2.1.trans (hb1.below hBr (Nat.le_trans hBW G.out.2.2.1.size)))))
    clear hr1 hq1 hb1 k0 k1 k2 k3
    go_wp2_with fail
    refine (qbool_calls gv Av cv l sv W1 H1.out.2.1).mono ?_
    rintro e W2 ⟨x2, sv2, rfl, hq2, hb2⟩
    have H2 := Lib.hid (And.intro (H1.out.1.turn hb2 (by omega) (by simp [Value.ownBlock]) (fun x hx => ⟨by have := H1.out.1.far x hx; omega, by simp [Value.ownBlock]⟩)) (And.intro hq2 (H1.out.2.2.trans (hb2.below hBv (Nat.le_trans hBW H1.out.2.2.size)))))
    clear hq2 hb2
    go_wp2_with fail
    go_ret
    exact ⟨_, _, _, rfl, H2.out.1, H2.out.2.1, H2.out.2.2⟩
  · have j1 : (f.k : Int).tmod 5 = 3 := by rw [mod_five, hj]; rfl
    have j2 : (f.k : Int) % 5 = 3 := by omega
    have hP : Calls Try.prog 22 #[.pointer (some ⟨gr, 0, none⟩), .int .i64 f.most] W0.drew fun e W' => ∃ (n9 : List UInt8) (s' : Rs), e = .returned (.string (txt n9)) ∧ (W'.cell? ⟨W.heap.size, 3, none⟩ = some (.int .i64 f.most)) ∧ Rst gr A c l s' W' ∧ Qst gv Av cv l sv W' ∧ Below B W W' ∧ W'.heap[W.heap.size]? = some (.cells f.cells 33 (0, 0)) := by
      refine (rtext_calls gr A c l s f.most hok.m0 hok.m1 W0.drew G.out.1.drew).mono ?_
      rintro e W' ⟨rfl, hr9, hb9⟩
      have hx9 := But.heap hb9.drew G.out.2.2.2 (by omega)
      obtain ⟨k0, k1, k2, k3⟩ := fd_cells hx9
      exact ⟨_, _, rfl, k3, hr9, G.out.2.1.turn hb9.drew (by omega) (by simp [Value.ownBlock]) (fun x hx => ⟨by have := hAv x hx; omega, by simp [Value.ownBlock]⟩), G.out.2.2.1.trans (hb9.drew.below hBr (Nat.le_trans hBW G.out.2.2.1.size)), hx9⟩
    have hQ : ∀ w s', Rst gr A c l s' w → Qst gv Av cv l sv w → Below B W w → w.heap[W.heap.size]? = some (.cells f.cells 33 (0, 0)) → Calls Try.prog 40 #[.pointer (some ⟨gv, 0, none⟩), .int .i64 f.most] w fun e W' => ∃ (n9 : List UInt8) (sv' : Rs), e = .returned (.string (txt n9)) ∧ (W'.cell? ⟨W.heap.size, 3, none⟩ = some (.int .i64 f.most)) ∧ Rst gr A c l s' W' ∧ Qst gv Av cv l sv' W' ∧ Below B W W' := by
      intro w s' h1 h2 h3 h4
      refine (qtext_calls gv Av cv l sv f.most hok.m0 hok.m1 w h2).mono ?_
      rintro e W' hh
      obtain ⟨n9, s9, rfl, hq9, hb9⟩ := hh
      have hx9 := But.heap hb9 h4 (by omega)
      obtain ⟨k0, k1, k2, k3⟩ := fd_cells hx9
      exact ⟨_, _, rfl, k3, h1.turn hb9 (by omega) (by simp [Value.ownBlock]) (fun x hx => ⟨by have := h1.far x hx; omega, by simp [Value.ownBlock]⟩), hq9, h3.trans (hb9.below hBv (Nat.le_trans hBW h3.size))⟩
    have HP := Lib.hid (And.intro hP hQ)
    clear hP hQ hj
    go_enter Try.func16, Try.ntmps16
    go_wp2_with fail
    go_region_held3 (fun W' => W'.cell? ⟨W.heap.size, 3, none⟩ = some (.int .i64 f.most)) (first | exact k3 | exact p9s | exact q9s) (first | (go_at_call 22; ((with_reducible refine (HP.out.1).mono ?_); rintro e w' ⟨n9, s9, rfl, p9s, p9r, p9q, p9b, p9x⟩)) | (go_at_call 40; ((with_reducible refine (HP.out.2 _ _ p9r p9q p9b p9x).mono ?_); rintro e w' ⟨m9, sv9, rfl, q9s, q9r, q9q, q9b⟩)))
    go_wp2_with fail
    go_ret
    exact ⟨_, _, _, rfl, q9r, q9q, q9b⟩
  · have j1 : (f.k : Int).tmod 5 = 4 := by rw [mod_five, hj]; rfl
    have j2 : (f.k : Int) % 5 = 4 := by omega
    clear hj
    go_enter Try.func16, Try.ntmps16
    go_wp2_with fail
    refine (rkey_calls gr A c l s W0 G.out.1).mono ?_
    rintro e W1 ⟨rfl, hr1, hb1⟩
    have hq1 := G.out.2.1.turn hb1 (by omega) (by simp [Value.ownBlock]) (fun x hx => ⟨by have := hAv x hx; omega, by simp [Value.ownBlock]⟩)
    have H1 := Lib.hid (And.intro hr1 (And.intro hq1 (G.out.2.2.1.trans (hb1.below hBr (Nat.le_trans hBW G.out.2.2.1.size)))))
    have hk8 := key_eight l s
    obtain ⟨kp, hkp⟩ : ∃ kp, kp = (fieldF zero8 keyR l s).1 := ⟨_, rfl⟩
    rw [← hkp] at hk8 ⊢
    clear hkp
    obtain ⟨x0, x1, x2, x3, x4, x5, x6, x7, rfl⟩ := eight hk8
    have hun : keyV [x0, x1, x2, x3, x4, x5, x6, x7] = .agg #[v8 x0, v8 x1, v8 x2, v8 x3, v8 x4, v8 x5, v8 x6, v8 x7] := rfl
    clear hr1 hq1 hb1 k0 k1 k2 k3
    go_wp2_with fail
    refine (qkey_calls gv Av cv l sv W1 H1.out.2.1).mono ?_
    rintro e W2 ⟨k9, sv2, hk9, rfl, hq2, hb2⟩
    have H2 := Lib.hid (And.intro (H1.out.1.turn hb2 (by omega) (by simp [Value.ownBlock]) (fun x hx => ⟨by have := H1.out.1.far x hx; omega, by simp [Value.ownBlock]⟩)) (And.intro hq2 (H1.out.2.2.trans (hb2.below hBv (Nat.le_trans hBW H1.out.2.2.size)))))
    obtain ⟨y0, y1, y2, y3, y4, y5, y6, y7, rfl⟩ := eight hk9
    have hun2 : keyV [y0, y1, y2, y3, y4, y5, y6, y7] = .agg #[v8 y0, v8 y1, v8 y2, v8 y3, v8 y4, v8 y5, v8 y6, v8 y7] := rfl
    obtain ⟨bq, hbq⟩ : ∃ bq, bq = decide ([x0, x1, x2, x3, x4, x5, x6, x7] = [y0, y1, y2, y3, y4, y5, y6, y7]) := ⟨_, rfl⟩
    have heq : ∀ w, (Op.equalIn 10000 55 (.agg #[v8 x0, v8 x1, v8 x2, v8 x3, v8 x4, v8 x5, v8 x6, v8 x7]) (.agg #[v8 y0, v8 y1, v8 y2, v8 y3, v8 y4, v8 y5, v8 y6, v8 y7])).run Try.prog w = .ok bq w := fun w => by
      rw [hbq]
      exact run_keys_eq w [x0, x1, x2, x3, x4, x5, x6, x7] [y0, y1, y2, y3, y4, y5, y6, y7] rfl rfl
    clear hbq hk8 hk9
    clear hq2 hb2
    go_wp2_with fail
    go_ret
    exact ⟨_, _, _, rfl, H2.out.1, H2.out.2.1, H2.out.2.2⟩
end Go.Proofs.Ytinilglljjffjaa.Cd
