/- The walks of the program's writer and reader that nobody has. -/
import Derived.Test.YtinilglljjffjaaCFld
import Derived.Test.YtinilglljjffjaaCR4
namespace Go.Proofs.Ytinilglljjffjaa.Cd
set_option linter.unusedVariables false
set_option linter.unusedSimpArgs false
open Go.RowKit
open Go.Proofs.Ytinilglljjffjaa.Num

theorem put_nil (A : Option Addr) (n c : Nat) (W : World) :
    Calls Try.prog 53 #[.pointer none, .slice A n c] W fun e W' => e = .returned (.tuple #[]) ∧ W' = W := by
  go_enter Try.func53, Try.ntmps53
  go_wp2_with fail
  go_end0
  exact ⟨rfl, rfl⟩
theorem num_nil (n : Nat) (hn : n < 18446744073709551616) (W : World) :
    Calls Try.prog 26 #[.pointer none, .int .u64 (n : Int)] W fun e W' => e = .returned (.tuple #[]) ∧ Below W.heap.size W W' := by
  have hs := short_calls none 0 [] n W (.inl rfl) (fun _ => rfl) (by simp) hn
  have G := Lib.hid hs
  clear hs
  go_enter Try.func26, Try.ntmps26
  go_wp2_with fail
  refine G.out.mono ?_
  rintro e W1 ⟨v1, rfl, ho, hb⟩
  rw [List.nil_append] at ho
  obtain ⟨A, c, rfl, hr, _, _, hA⟩ := ho.row
  clear ho hr hA
  go_wp2_with fail
  refine (put_nil A _ c W1).mono ?_
  rintro e W2 ⟨rfl, rfl⟩
  go_wp2_with fail
  go_end0
  exact ⟨rfl, hb⟩
theorem byte_nil (x : Int) (W : World) :
    Calls Try.prog 27 #[.pointer none, .int .u8 x] W fun e W' => e = .returned (.tuple #[]) ∧ Below W.heap.size W W' := by
  have hb : Below W.heap.size W (W.alloc (.cells #[.int .u8 x] 5)) := below_alloc1 _ _
  have G := Lib.hid hb
  clear hb
  go_enter Try.func27, Try.ntmps27
  go_wp2_with fail
  refine (put_nil _ _ _ _).mono ?_
  rintro e W2 ⟨rfl, rfl⟩
  go_wp2_with fail
  go_end0
  exact ⟨rfl, G.out⟩
theorem bool_nil (x : Bool) (W : World) :
    Calls Try.prog 28 #[.pointer none, .bool x] W fun e W' => e = .returned (.tuple #[]) ∧ Below W.heap.size W W' := by
  have G := Lib.hid (And.intro (below_alloc1 W (.cells #[.int .u8 1] 5)) (below_alloc1 W (.cells #[.int .u8 0] 5)))
  cases x with
  | true =>
    go_enter Try.func28, Try.ntmps28
    go_wp2_with fail
    refine (put_nil _ _ _ _).mono ?_
    rintro e W2 ⟨rfl, rfl⟩
    go_wp2_with fail
    go_end0
    exact ⟨rfl, G.out.1⟩
  | false =>
    go_enter Try.func28, Try.ntmps28
    go_wp2_with fail
    refine (put_nil _ _ _ _).mono ?_
    rintro e W2 ⟨rfl, rfl⟩
    go_wp2_with fail
    go_end0
    exact ⟨rfl, G.out.2⟩
set_option maxRecDepth 100000 in
theorem text_nil (m : List UInt8) (hm : m.length < 9223372036854775808) (W : World) :
    Calls Try.prog 29 #[.pointer none, .string (txt m)] W fun e W' => e = .returned (.tuple #[]) ∧ Below W.heap.size W W' := by
  have hn := num_nil m.length (by omega) W
  have hsz := txt_size m
  have hwr : IntKind.u64.wrap (m.length : Int) = (m.length : Int) := wraps_u64 _ (by omega) (by omega)
  obtain ⟨S, hS⟩ : ∃ S, S = txt m := ⟨_, rfl⟩
  rw [← hS] at hsz ⊢
  obtain ⟨n, hnn⟩ : ∃ n, n = m.length := ⟨_, rfl⟩
  rw [← hnn] at hsz hwr hn hm
  have G := Lib.hid hn
  clear hnn hS hn
  go_enter Try.func29, Try.ntmps29
  go_wp2_with fail
  refine G.out.mono ?_
  rintro e W1 ⟨rfl, hb1⟩
  have hcv := run_bytes_of_string (P := Try.prog) W1 9 25 5 S Try.underlying9 Try.underlying25 Try.underlying5
  rw [hsz] at hcv
  obtain ⟨cap, hcap⟩ : ∃ cap, cap = grownCap W1 n 0 5 := ⟨_, rfl⟩
  rw [← hcap] at hcv
  have hb : Below W1.heap.size W1 (W1.drew.alloc (.cells (bytesRow S cap) 5 ((bytesRow S cap).size, (bytesRow S cap).size + 1))) := (Below.refl _ _).drew.alloc (Nat.le_refl _) _
  obtain ⟨W2, hW2⟩ : ∃ W2, W2 = W1.drew.alloc (.cells (bytesRow S cap) 5 ((bytesRow S cap).size, (bytesRow S cap).size + 1)) := ⟨_, rfl⟩
  rw [← hW2] at hcv hb
  have H := Lib.hid (hb1.trans (hb.mono hb1.size))
  clear hb hW2 hcap hb1
  go_wp2_with fail
  refine (put_nil _ _ _ _).mono ?_
  rintro e W3 ⟨rfl, rfl⟩
  go_wp2_with fail
  go_end0
  exact ⟨rfl, H.out⟩
theorem key_nil (k : List UInt8) (hk : k.length = 8) (W : World) :
    Calls Try.prog 30 #[.pointer none, keyV k] W fun e W' => e = .returned (.tuple #[]) ∧ Below W.heap.size W W' := by
  have hb : Below W.heap.size W (W.alloc (.cells (k.map v8).toArray 55)) := below_alloc1 _ _
  have G := Lib.hid hb
  clear hb
  obtain ⟨x0, x1, x2, x3, x4, x5, x6, x7, rfl⟩ := eight hk
  clear hk
  unfold keyV
  go_enter Try.func30, Try.ntmps30
  go_wp2_with fail
  refine (put_nil _ _ _ _).mono ?_
  rintro e W2 ⟨rfl, rfl⟩
  go_wp2_with fail
  go_end0
  exact ⟨rfl, G.out⟩
theorem bytes_nil (W : World) :
    Calls Try.prog 13 #[.pointer none] W fun e W' => e = .returned (.slice none 0 0) ∧ W' = W := by
  go_enter Try.func13, Try.ntmps13
  go_wp2_with fail
  go_ret
  exact ⟨rfl, rfl⟩
theorem field64_nil (n : Int) (W : World) :
    Calls Try.prog 42 #[.pointer none, .func (.func 43) #[.int .u64 n] #[]] W fun e W' => e = .returned (.int .u64 0) ∧ W' = W := by
  go_enter Try.func42, Try.ntmps42
  go_wp2_with fail
  go_ret
  exact ⟨rfl, rfl⟩
theorem field8_nil (W : World) :
    Calls Try.prog 44 #[.pointer none, .func (.func 45) #[] #[]] W fun e W' => e = .returned (.int .u8 0) ∧ W' = W := by
  go_enter Try.func44, Try.ntmps44
  go_wp2_with fail
  go_ret
  exact ⟨rfl, rfl⟩
theorem fieldB_nil (W : World) :
    Calls Try.prog 46 #[.pointer none, .func (.func 47) #[] #[]] W fun e W' => e = .returned (.bool false) ∧ W' = W := by
  go_enter Try.func46, Try.ntmps46
  go_wp2_with fail
  go_ret
  exact ⟨rfl, rfl⟩
theorem fieldT_nil (n : Int) (W : World) :
    Calls Try.prog 48 #[.pointer none, .func (.func 49) #[.int .u64 n] #[]] W fun e W' => e = .returned (.string (txt [])) ∧ W' = W := by
  go_enter Try.func48, Try.ntmps48
  go_wp2_with fail
  go_ret
  exact ⟨rfl, rfl⟩
theorem rnum_nil (n : Int) (W : World) :
    Calls Try.prog 19 #[.pointer none, .int .u64 n] W fun e W' => e = .returned (.int .u64 0) ∧ Below W.heap.size W W' := by
  go_enter Try.func19, Try.ntmps19
  go_wp2_with fail
  all_goals
    refine (field64_nil _ _).mono ?_
    rintro e W2 ⟨rfl, rfl⟩
    go_wp2_with fail
    go_ret
    exact ⟨rfl, Below.refl _ _⟩
theorem rbyte_nil (W : World) :
    Calls Try.prog 20 #[.pointer none] W fun e W' => e = .returned (.int .u8 0) ∧ Below W.heap.size W W' := by
  go_enter Try.func20, Try.ntmps20
  go_wp2_with fail
  all_goals
    refine (field8_nil _).mono ?_
    rintro e W2 ⟨rfl, rfl⟩
    go_wp2_with fail
    go_ret
    exact ⟨rfl, Below.refl _ _⟩
theorem rbool_nil (W : World) :
    Calls Try.prog 21 #[.pointer none] W fun e W' => e = .returned (.bool false) ∧ Below W.heap.size W W' := by
  go_enter Try.func21, Try.ntmps21
  go_wp2_with fail
  all_goals
    refine (fieldB_nil _).mono ?_
    rintro e W2 ⟨rfl, rfl⟩
    go_wp2_with fail
    go_ret
    exact ⟨rfl, Below.refl _ _⟩
theorem rtext_nil (W : World) :
    Calls Try.prog 22 #[.pointer none, .int .i64 9] W fun e W' => e = .returned (.string (txt [])) ∧ Below W.heap.size W W' := by
  go_enter Try.func22, Try.ntmps22
  go_wp2_with fail
  all_goals
    refine (fieldT_nil _ _).mono ?_
    rintro e W2 ⟨rfl, rfl⟩
    go_wp2_with fail
    go_ret
    exact ⟨rfl, Below.refl _ _⟩
set_option maxHeartbeats 1000000 in
set_option maxRecDepth 100000 in
theorem fieldK_nil (W : World) :
    Calls Try.prog 50 #[.pointer none, .func (.func 51) #[] #[]] W fun e W' => e = .returned (keyV zero8) ∧ Below W.heap.size W W' := by
  obtain ⟨hR, hZ, hbel⟩ := zeros2 W
  obtain ⟨r0, r1, r2, r3, r4, r5, r6, r7⟩ := hR.zero
  have G := Lib.hid hbel
  clear hR hZ hbel
  go_enter Try.func50, Try.ntmps50
  go_wp2_with fail
  refine bodyPost_ret (v := keyV zero8) (by simp [results, Try.results50, go_sem, keyV, v8, zero8, r0, r1, r2, r3, r4, r5, r6, r7]) rfl ⟨rfl, G.out⟩
set_option maxHeartbeats 1000000 in
set_option maxRecDepth 100000 in
theorem rkey_nil (W : World) :
    Calls Try.prog 23 #[.pointer none] W fun e W' => e = .returned (keyV zero8) ∧ Below W.heap.size W W' := by
  have hb1 := below_alloc1 W (.cells #[.int .u8 0, .int .u8 0, .int .u8 0, .int .u8 0, .int .u8 0, .int .u8 0, .int .u8 0, .int .u8 0] 55)
  have hc := fieldK_nil (W.alloc (.cells #[.int .u8 0, .int .u8 0, .int .u8 0, .int .u8 0, .int .u8 0, .int .u8 0, .int .u8 0, .int .u8 0] 55))
  have hz : KeyAt W.heap.size zero8 (W.alloc (.cells #[.int .u8 0, .int .u8 0, .int .u8 0, .int .u8 0, .int .u8 0, .int .u8 0, .int .u8 0, .int .u8 0] 55)) := heap_alloc_new _ _
  have G := Lib.hid (And.intro hc (And.intro hb1 hz))
  clear hc hb1 hz
  go_enter Try.func23, Try.ntmps23
  go_wp2_with fail
  generalize W.alloc (.cells #[.int .u8 0, .int .u8 0, .int .u8 0, .int .u8 0, .int .u8 0, .int .u8 0, .int .u8 0, .int .u8 0] 55) = W1 at G ⊢
  refine G.out.1.mono ?_
  rintro e W2 ⟨rfl, hb⟩
  have hz2 : KeyAt W.heap.size zero8 W2 := G.out.2.2.below hb
  obtain ⟨r0, r1, r2, r3, r4, r5, r6, r7⟩ := hz2.zero
  have f0 := hz2.free 0; have f1 := hz2.free 1; have f2 := hz2.free 2; have f3 := hz2.free 3; have f4 := hz2.free 4; have f5 := hz2.free 5; have f6 := hz2.free 6; have f7 := hz2.free 7
  have H := Lib.hid (G.out.2.1.trans (hb.mono G.out.2.1.size))
  clear hb hz2
  unfold keyV zero8
  simp only [List.map_cons, List.map_nil, v8]
  go_wp2_with fail
  refine bodyPost_ret (v := keyV zero8) (by simp [results, Try.results23, go_sem, keyV, v8, zero8, r0, r1, r2, r3, r4, r5, r6, r7]) rfl ⟨rfl, ?_⟩
  exact below_set8 H.out (Nat.le_refl _) _ _ _ _ _ _ _ _
theorem left_nil (W : World) :
    Calls Try.prog 18 #[.pointer none] W fun e W' => e = .returned (.int .i64 0) ∧ Below W.heap.size W W' := by
  go_enter Try.func18, Try.ntmps18
  go_wp2_with fail
  go_ret
  exact ⟨rfl, Below.refl _ _⟩
theorem endf_calls (W : World) :
    Calls Try.prog 52 #[] W fun e W' => e = .returned (.agg #[.int .i64 4, .int .i64 0]) ∧ Below W.heap.size W W' := by
  have hb1 := below_alloc1 W (.cells #[.int .i64 0, .int .i64 0] 43)
  have hz : (W.alloc (.cells #[.int .i64 0, .int .i64 0] 43)).heap[W.heap.size]? = some (.cells #[.int .i64 0, .int .i64 0] 43 (0, 0)) := heap_alloc_new _ _
  have G := Lib.hid (And.intro hb1 hz)
  clear hb1 hz
  go_enter Try.func52, Try.ntmps52
  go_wp2_with fail
  refine bodyPost_ret (v := .agg #[.int .i64 4, .int .i64 0]) (by simp [results, Try.results52, go_sem]) rfl ⟨rfl, below_alloc1 _ _⟩
theorem fault_nil (W : World) :
    Calls Try.prog 24 #[.pointer none] W fun e W' => e = .returned (.agg #[.int .i64 4, .int .i64 0]) ∧ Below W.heap.size W W' := by
  have hb1 := below_alloc1 W (.cells #[.int .i64 0, .int .i64 0] 43)
  have hz : (W.alloc (.cells #[.int .i64 0, .int .i64 0] 43)).heap[W.heap.size]? = some (.cells #[.int .i64 0, .int .i64 0] 43 (0, 0)) := heap_alloc_new _ _
  have G := Lib.hid (And.intro hb1 hz)
  clear hb1 hz
  go_enter Try.func24, Try.ntmps24
  go_wp2_with fail
  refine (endf_calls _).mono ?_
  rintro e W4 ⟨rfl, hb4⟩
  have hz4 := (hb4.block _ (Array.getElem?_eq_some_iff.1 G.out.2).1).trans G.out.2
  have c0 : W4.cell? ⟨W.heap.size, 0, none⟩ = some (.int .i64 0) := by simp [World.cell?, hz4]
  have c1 : W4.cell? ⟨W.heap.size, 1, none⟩ = some (.int .i64 0) := by simp [World.cell?, hz4]
  have g0 : W4.frozen? ⟨W.heap.size, 0, none⟩ = false := by simp [World.frozen?, hz4]
  have g1 : W4.frozen? ⟨W.heap.size, 1, none⟩ = false := by simp [World.frozen?, hz4]
  have H := Lib.hid (G.out.1.trans (hb4.mono G.out.1.size))
  clear hb4 hz4
  go_wp2_with fail
  refine bodyPost_ret (v := .agg #[.int .i64 4, .int .i64 0]) (by simp [results, Try.results24, go_sem, c0, c1]) rfl ⟨rfl, (H.out.setCell (p := ⟨W.heap.size, 0, none⟩) (Nat.le_refl _) _).setCell (p := ⟨W.heap.size, 1, none⟩) (Nat.le_refl _) _⟩
theorem end_nil (W : World) :
    Calls Try.prog 17 #[.pointer none] W fun e W' => e = .returned (.agg #[.int .i64 4, .int .i64 0]) ∧ Below W.heap.size W W' := by
  have hb1 := below_alloc1 W (.cells #[.int .i64 0, .int .i64 0] 43)
  have hz : (W.alloc (.cells #[.int .i64 0, .int .i64 0] 43)).heap[W.heap.size]? = some (.cells #[.int .i64 0, .int .i64 0] 43 (0, 0)) := heap_alloc_new _ _
  have G := Lib.hid (And.intro hb1 hz)
  clear hb1 hz
  go_enter Try.func17, Try.ntmps17
  go_wp2_with fail
  generalize W.alloc (.cells #[.int .i64 0, .int .i64 0] 43) = W1 at G ⊢
  refine (left_nil _).mono ?_
  rintro e W3 ⟨rfl, hb3⟩
  have H3 := Lib.hid (And.intro (G.out.1.trans (hb3.mono G.out.1.size)) ((hb3.block _ (Array.getElem?_eq_some_iff.1 G.out.2).1).trans G.out.2))
  clear hb3
  go_wp2_with fail
  refine (fault_nil _).mono ?_
  rintro e W4 ⟨rfl, hb4⟩
  have hz4 := (hb4.block _ (Array.getElem?_eq_some_iff.1 H3.out.2).1).trans H3.out.2
  have c0 : W4.cell? ⟨W.heap.size, 0, none⟩ = some (.int .i64 0) := by simp [World.cell?, hz4]
  have c1 : W4.cell? ⟨W.heap.size, 1, none⟩ = some (.int .i64 0) := by simp [World.cell?, hz4]
  have g0 : W4.frozen? ⟨W.heap.size, 0, none⟩ = false := by simp [World.frozen?, hz4]
  have g1 : W4.frozen? ⟨W.heap.size, 1, none⟩ = false := by simp [World.frozen?, hz4]
  have H := Lib.hid (H3.out.1.trans (hb4.mono H3.out.1.size))
  clear hb4 hz4
  go_wp2_with fail
  refine bodyPost_ret (v := .agg #[.int .i64 4, .int .i64 0]) (by simp [results, Try.results17, go_sem, c0, c1]) rfl ⟨rfl, (H.out.setCell (p := ⟨W.heap.size, 0, none⟩) (Nat.le_refl _) _).setCell (p := ⟨W.heap.size, 1, none⟩) (Nat.le_refl _) _⟩
set_option maxHeartbeats 4000000 in
set_option maxRecDepth 100000 in
theorem write_nil (B g2 : Nat) (v2 : Value) (l2 : List UInt8) (f : Fd) (hok : f.Ok) (W : World) (h : Wst B 29 g2 v2 l2 W) (hB2 : B ≤ g2) (hlen : l2.length + f.s.length + 2000 ≤ 140737488355328) :
    Calls Try.prog 11 #[.pointer none, .pointer (some ⟨g2, 0, none⟩), .agg f.cells] W fun e W' => e = .returned (.tuple #[]) ∧ ∃ v2', Wst B 29 g2 v2' (l2 ++ encF f) W' ∧ Turn g2 v2 v2' W W' := by
  have hb : Below W.heap.size W (W.alloc (.cells #[.int .u8 (f.k : Int), .int .u64 (f.n : Int), .string (txt f.s), .int .i64 f.most] 33)) := below_alloc1 _ _
  have hx : (W.alloc (.cells #[.int .u8 (f.k : Int), .int .u64 (f.n : Int), .string (txt f.s), .int .i64 f.most] 33)).heap[W.heap.size]? = some (.cells f.cells 33 (0, 0)) := heap_alloc_new _ _
  obtain ⟨k0, k1, k2, k3⟩ := fd_cells hx
  have G := Lib.hid (And.intro (h.below hb) (And.intro hb (And.intro hx hlen)))
  clear h hb hx hlen
  unfold Fd.cells
  have hj5 : f.k % 5 = 0 ∨ f.k % 5 = 1 ∨ f.k % 5 = 2 ∨ f.k % 5 = 3 ∨ f.k % 5 = 4 := by omega
  rcases hj5 with hj | hj | hj | hj | hj
  · have j1 : (f.k : Int).tmod 5 = 0 := by rw [Int.tmod_eq_emod_of_nonneg (by omega)]; omega
    have j2 : (f.k : Int) % 5 = 0 := by omega
    have he : encF f = short f.n := by simp only [encF, hj]
    rw [he]
    
    clear he hj
    go_enter Try.func11, Try.ntmps11
    go_wp2_with fail
    generalize W.alloc (.cells #[.int .u8 (f.k : Int), .int .u64 (f.n : Int), .string (txt f.s), .int .i64 f.most] 33) = W0 at G k0 k1 k2 k3 ⊢
    refine (num_nil f.n hok.n W0).mono ?_
    rintro e W1 ⟨rfl, hb1⟩
    have hbx := (hb1.block _ (Array.getElem?_eq_some_iff.1 G.out.2.2.1).1).trans G.out.2.2.1
    obtain ⟨k0', k1', k2', k3'⟩ := fd_cells hbx
    have H1 := Lib.hid (And.intro (G.out.1.below hb1) (G.out.2.1.trans (hb1.mono G.out.2.1.size)))
    clear hb1 hbx k0 k1 k2 k3
    go_wp2_with fail
    refine (refnum_calls B g2 v2 l2 f.n hok.n W1 H1.out.1 hB2 (by have := G.out.2.2.2; omega)).mono ?_
    rintro e W2 ⟨rfl, v2', hw2, ht2⟩
    have H2 := Lib.hid (And.intro hw2 ((Turn.of_below H1.out.2).trans ht2))
    clear hw2 ht2
    go_wp2_with fail
    go_end0
    exact ⟨rfl, v2', H2.out.1, H2.out.2⟩
  · have j1 : (f.k : Int).tmod 5 = 1 := by rw [Int.tmod_eq_emod_of_nonneg (by omega)]; omega
    have j2 : (f.k : Int) % 5 = 1 := by omega
    have he : encF f = [UInt8.ofNat f.n] := by simp only [encF, hj]
    rw [he]
    have e8 : (f.n : Int) % 256 = ((UInt8.ofNat f.n).toNat : Int) := by rw [UInt8.toNat_ofNat']; omega
    have E8 := Lib.hid e8
    clear e8
    clear he hj
    go_enter Try.func11, Try.ntmps11
    go_wp2_with fail
    generalize W.alloc (.cells #[.int .u8 (f.k : Int), .int .u64 (f.n : Int), .string (txt f.s), .int .i64 f.most] 33) = W0 at G k0 k1 k2 k3 ⊢
    refine (byte_nil _ W0).mono ?_
    rintro e W1 ⟨rfl, hb1⟩
    have hbx := (hb1.block _ (Array.getElem?_eq_some_iff.1 G.out.2.2.1).1).trans G.out.2.2.1
    obtain ⟨k0', k1', k2', k3'⟩ := fd_cells hbx
    have H1 := Lib.hid (And.intro (G.out.1.below hb1) (G.out.2.1.trans (hb1.mono G.out.2.1.size)))
    clear hb1 hbx k0 k1 k2 k3
    go_wp2_with fail
    rw [E8.out]
    refine (refbyte_calls B g2 v2 l2 (UInt8.ofNat f.n) W1 H1.out.1 hB2 (by have := G.out.2.2.2; omega)).mono ?_
    rintro e W2 ⟨rfl, v2', hw2, ht2⟩
    have H2 := Lib.hid (And.intro hw2 ((Turn.of_below H1.out.2).trans ht2))
    clear hw2 ht2
    go_wp2_with fail
    go_end0
    exact ⟨rfl, v2', H2.out.1, H2.out.2⟩
  · have j1 : (f.k : Int).tmod 5 = 2 := by rw [Int.tmod_eq_emod_of_nonneg (by omega)]; omega
    have j2 : (f.k : Int) % 5 = 2 := by omega
    have he : encF f = [tF (decide (f.n % 2 = 1))] := by simp only [encF, hj]
    rw [he]
    have e2 : ((f.n : Int) % 2 == 1) = decide (f.n % 2 = 1) := par_nat f.n
    have E2 := Lib.hid e2
    clear e2
    clear he hj
    go_enter Try.func11, Try.ntmps11
    go_wp2_with fail
    generalize W.alloc (.cells #[.int .u8 (f.k : Int), .int .u64 (f.n : Int), .string (txt f.s), .int .i64 f.most] 33) = W0 at G k0 k1 k2 k3 ⊢
    refine (bool_nil _ W0).mono ?_
    rintro e W1 ⟨rfl, hb1⟩
    have hbx := (hb1.block _ (Array.getElem?_eq_some_iff.1 G.out.2.2.1).1).trans G.out.2.2.1
    obtain ⟨k0', k1', k2', k3'⟩ := fd_cells hbx
    have H1 := Lib.hid (And.intro (G.out.1.below hb1) (G.out.2.1.trans (hb1.mono G.out.2.1.size)))
    clear hb1 hbx k0 k1 k2 k3
    go_wp2_with fail
    rw [E2.out]
    refine (refbool_calls B g2 v2 l2 (decide (f.n % 2 = 1)) W1 H1.out.1 hB2 (by have := G.out.2.2.2; omega)).mono ?_
    rintro e W2 ⟨rfl, v2', hw2, ht2⟩
    have H2 := Lib.hid (And.intro hw2 ((Turn.of_below H1.out.2).trans ht2))
    clear hw2 ht2
    go_wp2_with fail
    go_end0
    exact ⟨rfl, v2', H2.out.1, H2.out.2⟩
  · have j1 : (f.k : Int).tmod 5 = 3 := by rw [Int.tmod_eq_emod_of_nonneg (by omega)]; omega
    have j2 : (f.k : Int) % 5 = 3 := by omega
    have he : encF f = textF f.s := by simp only [encF, hj]
    rw [he]
    
    clear he hj
    go_enter Try.func11, Try.ntmps11
    go_wp2_with fail
    generalize W.alloc (.cells #[.int .u8 (f.k : Int), .int .u64 (f.n : Int), .string (txt f.s), .int .i64 f.most] 33) = W0 at G k0 k1 k2 k3 ⊢
    refine (text_nil f.s (by have := hok.s; omega) W0).mono ?_
    rintro e W1 ⟨rfl, hb1⟩
    have hbx := (hb1.block _ (Array.getElem?_eq_some_iff.1 G.out.2.2.1).1).trans G.out.2.2.1
    obtain ⟨k0', k1', k2', k3'⟩ := fd_cells hbx
    have H1 := Lib.hid (And.intro (G.out.1.below hb1) (G.out.2.1.trans (hb1.mono G.out.2.1.size)))
    clear hb1 hbx k0 k1 k2 k3
    go_wp2_with fail
    refine (reftext_calls B g2 v2 l2 f.s W1 H1.out.1 hB2 (by have := G.out.2.2.2; omega)).mono ?_
    rintro e W2 ⟨rfl, v2', hw2, ht2⟩
    have H2 := Lib.hid (And.intro hw2 ((Turn.of_below H1.out.2).trans ht2))
    clear hw2 ht2
    go_wp2_with fail
    go_end0
    exact ⟨rfl, v2', H2.out.1, H2.out.2⟩
  · have j1 : (f.k : Int).tmod 5 = 4 := by rw [Int.tmod_eq_emod_of_nonneg (by omega)]; omega
    have j2 : (f.k : Int) % 5 = 4 := by omega
    have he : encF f = keyOf f.s := by simp only [encF, hj]
    rw [he]
    
    clear he hj
    go_enter Try.func11, Try.ntmps11
    go_wp2_with fail
    generalize W.alloc (.cells #[.int .u8 (f.k : Int), .int .u64 (f.n : Int), .string (txt f.s), .int .i64 f.most] 33) = W0 at G k0 k1 k2 k3 ⊢
    refine (lkey_calls f.s hok.s W0).mono ?_
    rintro e Wk ⟨rfl, hbk⟩
    replace G := Lib.hid (And.intro (G.out.1.below hbk) (And.intro (G.out.2.1.trans (hbk.mono G.out.2.1.size)) (And.intro ((hbk.block _ (Array.getElem?_eq_some_iff.1 G.out.2.2.1).1).trans G.out.2.2.1) G.out.2.2.2)))
    go_wp2_with fail
    refine (key_nil (keyOf f.s) (padF_len f.s 8 (by omega)) Wk).mono ?_
    rintro e W1 ⟨rfl, hb1⟩
    have hbx := (hb1.block _ (Array.getElem?_eq_some_iff.1 G.out.2.2.1).1).trans G.out.2.2.1
    obtain ⟨k0', k1', k2', k3'⟩ := fd_cells hbx
    have H1 := Lib.hid (And.intro (G.out.1.below hb1) (G.out.2.1.trans (hb1.mono G.out.2.1.size)))
    clear hb1 hbx k0 k1 k2 k3
    go_wp2_with fail
    refine (lkey_calls f.s hok.s W1).mono ?_
    rintro e Wm ⟨rfl, hbm⟩
    replace H1 := Lib.hid (And.intro (H1.out.1.below hbm) (H1.out.2.trans (hbm.mono H1.out.2.size)))
    go_wp2_with fail
    refine (refkey_calls B g2 v2 l2 (keyOf f.s) (padF_len f.s 8 (by omega)) Wm H1.out.1 hB2 (by have := G.out.2.2.2; omega)).mono ?_
    rintro e W2 ⟨rfl, v2', hw2, ht2⟩
    have H2 := Lib.hid (And.intro hw2 ((Turn.of_below H1.out.2).trans ht2))
    clear hw2 ht2
    go_wp2_with fail
    go_end0
    exact ⟨rfl, v2', H2.out.1, H2.out.2⟩
end Go.Proofs.Ytinilglljjffjaa.Cd
