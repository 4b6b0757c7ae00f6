/- The walk of the law: more nodes never have fewer votes; all voters read and write. -/
import Derived.Test.YtcgbjodeklknoaaDoorVMeet
namespace Go.Proofs.YtcgbjodeklknoaaDoor.Vo
set_option linter.unusedVariables false
set_option linter.unusedSimpArgs false
open Go.RowKit
open Go.Proofs.YtcgbjodeklknoaaDoor.Bit

set_option maxHeartbeats 4000000 in
set_option maxRecDepth 100000 in
theorem VotesAll_walk (c : Cf) (hc : c.Ok) (a b : Nat) (ha : a < 18446744073709551616) (hb : b < 18446744073709551616) (w : World) (hT : TabAt 0 Lib.deBruijn64tab w) (hw : 0 < w.heap.size) :
    Calls Tryd.prog 6 #[c.val, .int .u64 (a : Int), .int .u64 (b : Int)] w fun e w' => e = .returned (.bool true) ∧ Below w.heap.size w w' := by
  have hor : a ||| b < 18446744073709551616 := Nat.or_lt_two_pow (n := 64) ha hb
  have hand : a &&& b < 18446744073709551616 := Nat.lt_of_le_of_lt Nat.and_le_left ha
  have hvl := voters_lt64 c.V (by rw [Cf.len]; omega)
  have e1 : Go.bits .or .u64 (a : Int) (b : Int) = ((a ||| b : Nat) : Int) := bits_or_u64_nat a b ha hb
  have e2 : Go.bits .and .u64 (a : Int) (b : Int) = ((a &&& b : Nat) : Int) := bits_and_u64_nat a b ha hb
  have c1 := fun W => vof_calls c hc a ha W
  have c2 := fun W => vof_calls c hc b hb W
  have c3 := fun W => vof_calls c hc (a ||| b) hor W
  have c4 := fun W => vof_calls c hc (a &&& b) hand W
  have c5 := fun W => vof_calls c hc (voters c.V) (by omega) W
  have c6 := fun W => vtotal_calls c hc W
  have c7 := fun W => vvoters_calls c hc W
  have c8 := fun W => vmay_calls c hc W
  have c9 := fun W => vreads_calls c hc (voters c.V) (by omega) W
  have c10 := fun W => vwrites_calls c hc (voters c.V) (by omega) W
  have f1 := of_mono c.V a (a ||| b) (fun i hi => by rw [Nat.testBit_or, hi]; rfl)
  have f2 := of_le_sum c.V (a ||| b)
  have f3 := of_or_and c.V a b
  have f4 := sum_le c.V hc.v
  rw [Cf.len] at f4
  have f5 := of_le_sum c.V b
  have f6 := of_le_sum c.V (a &&& b)
  rw [of_voters] at c5 c9 c10
  have hmay : mayF c = true → c.r ≤ c.V.sum ∧ c.q ≤ c.V.sum := fun h => (may_votes h).2.2
  obtain ⟨T, hV⟩ : ∃ n, n = voters c.V := ⟨_, rfl⟩
  rw [← hV] at c5 c7 c9 c10
  obtain ⟨S, hS⟩ : ∃ n, n = c.V.sum := ⟨_, rfl⟩
  rw [← hS] at c5 c6 c9 c10 f2 f4 f5 f6 hmay
  obtain ⟨na, hna⟩ : ∃ n, n = of c.V a := ⟨_, rfl⟩
  rw [← hna] at c1 f1 f3
  obtain ⟨nb, hnb⟩ : ∃ n, n = of c.V b := ⟨_, rfl⟩
  rw [← hnb] at c2 f3 f5
  obtain ⟨no, hno⟩ : ∃ n, n = of c.V (a ||| b) := ⟨_, rfl⟩
  rw [← hno] at c3 f1 f2 f3
  obtain ⟨nd, hnd⟩ : ∃ n, n = of c.V (a &&& b) := ⟨_, rfl⟩
  rw [← hnd] at c4 f3 f6
  obtain ⟨x, hx0⟩ : ∃ x, x = a ||| b := ⟨_, rfl⟩
  rw [← hx0] at e1 c3
  obtain ⟨z, hz0⟩ : ∃ x, x = a &&& b := ⟨_, rfl⟩
  rw [← hz0] at e2 c4
  obtain ⟨y, hy⟩ : ∃ y, y = mayF c := ⟨_, rfl⟩
  rw [← hy] at c8 hmay
  have d1 : decide (no < na) = false := decide_eq_false (by omega)
  have d2 : decide (S < no) = false := decide_eq_false (by omega)
  have d3 : (IntKind.i64.wrap ((na : Int) + (nb : Int)) != IntKind.i64.wrap ((no : Int) + (nd : Int))) = false := by rw [bne_eq_false_iff_eq, IntKind.wrap_i64, IntKind.wrap_i64]; omega
  have d4 : ((S : Int) == (S : Int)) = true := by simp
  have G := Lib.hid (And.intro c1 (And.intro c2 (And.intro c3 (And.intro c4 (And.intro c5 (And.intro c6 (And.intro c7 (And.intro c8 (And.intro c9 (And.intro c10 (And.intro hmay hT)))))))))))
  have HX := Lib.hid (bx_new c w)
  have b1 : na ≤ 2040 := by omega
  have b2 : nb ≤ 2040 := by omega
  have b3 : no ≤ 2040 := by omega
  have b4 : nd ≤ 2040 := by omega
  clear c1 c2 c3 c4 c5 c6 c7 c8 c9 c10 f1 f2 f3 f4 f5 f6 hT hV hS hna hnb hno hnd hx0 hz0 hy hmay hc hvl hor hand ha hb
  unfold Cf.val at G ⊢
  go_enter Tryd.func6, Tryd.ntmps6
  go_wp2_with fail
  generalize w.alloc (.cells #[.int .u32 (c.e : Int), .int .u8 (c.r : Int), .int .u8 (c.q : Int), .int .u8 (c.v0 : Int), .int .u8 (c.v1 : Int), .int .u8 (c.v2 : Int), .int .u8 (c.v3 : Int), .int .u8 (c.v4 : Int), .int .u8 (c.v5 : Int), .int .u8 (c.v6 : Int), .int .u8 (c.v7 : Int)] 25) = w1 at HX ⊢
  have hx := HX
  have hxd := Lib.hid hx.out.drew
  go_region_held3 (fun W => W.cell? ⟨w.heap.size, 0, none⟩ = some (.int .u32 (c.e : Int)) ∧ W.cell? ⟨w.heap.size, 1, none⟩ = some (.int .u8 (c.r : Int)) ∧ W.cell? ⟨w.heap.size, 2, none⟩ = some (.int .u8 (c.q : Int)) ∧ W.cell? ⟨w.heap.size, 3, none⟩ = some (.int .u8 (c.v0 : Int)) ∧ W.cell? ⟨w.heap.size, 4, none⟩ = some (.int .u8 (c.v1 : Int)) ∧ W.cell? ⟨w.heap.size, 5, none⟩ = some (.int .u8 (c.v2 : Int)) ∧ W.cell? ⟨w.heap.size, 6, none⟩ = some (.int .u8 (c.v3 : Int)) ∧ W.cell? ⟨w.heap.size, 7, none⟩ = some (.int .u8 (c.v4 : Int)) ∧ W.cell? ⟨w.heap.size, 8, none⟩ = some (.int .u8 (c.v5 : Int)) ∧ W.cell? ⟨w.heap.size, 9, none⟩ = some (.int .u8 (c.v6 : Int)) ∧ W.cell? ⟨w.heap.size, 10, none⟩ = some (.int .u8 (c.v7 : Int))) (first | exact hx.out.2) (first | (go_at_call 21; ((with_reducible refine (at_of (by assumption) (G.out.1 _)).mono ?_); rintro e w' ⟨rfl, hx⟩)) | (go_at_call 21; ((with_reducible refine (at_of (by assumption) (G.out.2.1 _)).mono ?_); rintro e w' ⟨rfl, hx⟩)) | (go_at_call 21; ((with_reducible refine (at_of (by assumption) (G.out.2.2.1 _)).mono ?_); rintro e w' ⟨rfl, hx⟩)) | (go_at_call 21; ((with_reducible refine (at_of (by assumption) (G.out.2.2.2.1 _)).mono ?_); rintro e w' ⟨rfl, hx⟩)) | (go_at_call 17; ((with_reducible refine (at_of (by assumption) (G.out.2.2.2.2.2.1 _)).mono ?_); rintro e w' ⟨rfl, hx⟩)))
  go_wp2_with fail
  have HX2 := hx
  clear hx HX hxd
  refine (at_of HX2 (G.out.2.2.2.2.2.2.1 _)).mono ?_
  rintro e w3 ⟨rfl, hx⟩
  have hxd := Lib.hid hx.out.drew
  clear HX2
  cases y with
  | true =>
    have r1 := G.out.2.2.2.2.2.2.2.2.1
    have r2 := G.out.2.2.2.2.2.2.2.2.2.1
    rw [decide_eq_true (G.out.2.2.2.2.2.2.2.2.2.2.1 rfl).1] at r1
    rw [decide_eq_true (G.out.2.2.2.2.2.2.2.2.2.2.1 rfl).2] at r2
    have M := Lib.hid (And.intro r1 r2)
    clear r1 r2
    go_wp2_with fail
    go_region_held3 (fun W => W.cell? ⟨w.heap.size, 0, none⟩ = some (.int .u32 (c.e : Int)) ∧ W.cell? ⟨w.heap.size, 1, none⟩ = some (.int .u8 (c.r : Int)) ∧ W.cell? ⟨w.heap.size, 2, none⟩ = some (.int .u8 (c.q : Int)) ∧ W.cell? ⟨w.heap.size, 3, none⟩ = some (.int .u8 (c.v0 : Int)) ∧ W.cell? ⟨w.heap.size, 4, none⟩ = some (.int .u8 (c.v1 : Int)) ∧ W.cell? ⟨w.heap.size, 5, none⟩ = some (.int .u8 (c.v2 : Int)) ∧ W.cell? ⟨w.heap.size, 6, none⟩ = some (.int .u8 (c.v3 : Int)) ∧ W.cell? ⟨w.heap.size, 7, none⟩ = some (.int .u8 (c.v4 : Int)) ∧ W.cell? ⟨w.heap.size, 8, none⟩ = some (.int .u8 (c.v5 : Int)) ∧ W.cell? ⟨w.heap.size, 9, none⟩ = some (.int .u8 (c.v6 : Int)) ∧ W.cell? ⟨w.heap.size, 10, none⟩ = some (.int .u8 (c.v7 : Int))) (first | exact hx.out.2) (first | (go_at_call 14; ((with_reducible refine (at_of (by assumption) (G.out.2.2.2.2.2.2.2.1 _)).mono ?_); rintro e w' ⟨rfl, hx⟩)) | (go_at_call 22; ((with_reducible refine (at_of (by assumption) (M.out.1 _)).mono ?_); rintro e w' ⟨rfl, hx⟩)) | (go_at_call 23; ((with_reducible refine (at_of (by assumption) (M.out.2 _)).mono ?_); rintro e w' ⟨rfl, hx⟩)) | (go_at_call 21; ((with_reducible refine (at_of (by assumption) (G.out.2.2.2.2.1 _)).mono ?_); rintro e w' ⟨rfl, hx⟩)) | (go_at_call 17; ((with_reducible refine (at_of (by assumption) (G.out.2.2.2.2.2.1 _)).mono ?_); rintro e w' ⟨rfl, hx⟩)) | (go_at_call 11; ((with_reducible refine (alive_at (by assumption) G.out.2.2.2.2.2.2.2.2.2.2.2 hw).mono ?_); rintro e w' ⟨rfl, hx⟩)))
    go_wp2_with fail
    go_ret
    exact ⟨rfl, hx.out.1⟩
  | false =>
    have M := Lib.hid (And.intro G.out.2.2.2.2.2.2.2.2.1 G.out.2.2.2.2.2.2.2.2.2.1)
    go_wp2_with fail
    refine wp_region_held_drew (S := (fun W => W.cell? ⟨w.heap.size, 0, none⟩ = some (.int .u32 (c.e : Int)) ∧ W.cell? ⟨w.heap.size, 1, none⟩ = some (.int .u8 (c.r : Int)) ∧ W.cell? ⟨w.heap.size, 2, none⟩ = some (.int .u8 (c.q : Int)) ∧ W.cell? ⟨w.heap.size, 3, none⟩ = some (.int .u8 (c.v0 : Int)) ∧ W.cell? ⟨w.heap.size, 4, none⟩ = some (.int .u8 (c.v1 : Int)) ∧ W.cell? ⟨w.heap.size, 5, none⟩ = some (.int .u8 (c.v2 : Int)) ∧ W.cell? ⟨w.heap.size, 6, none⟩ = some (.int .u8 (c.v3 : Int)) ∧ W.cell? ⟨w.heap.size, 7, none⟩ = some (.int .u8 (c.v4 : Int)) ∧ W.cell? ⟨w.heap.size, 8, none⟩ = some (.int .u8 (c.v5 : Int)) ∧ W.cell? ⟨w.heap.size, 9, none⟩ = some (.int .u8 (c.v6 : Int)) ∧ W.cell? ⟨w.heap.size, 10, none⟩ = some (.int .u8 (c.v7 : Int)))) (by kernel_rfl) (by (try dsimp only); exact hx.out.2) (fun hHeld => ?_)
    refine wpAnyH_take (i := 0) (v := ?_) (by rw [List.getElem?_toArray]; rfl) (by kernel_rfl) (by kernel_rfl) (by kernel_rfl) (by exact fun _ _ _ h => h) (Or.inl ⟨by rfl, ?_⟩) (by assumption) ?_; rotate_left; (((intro w hSw; (try dsimp only at hSw); go_simp) <;> with_reducible rfl)); (try simp only [Act.put, List.setIfInBounds_toArray, List.set_cons_zero, List.set_cons_succ])
    refine wpAnyH_ready (rs := [1]) (by kernel_rfl) (by simp) ?_; refine AllReadyH.cons (by rw [List.getElem?_toArray]; rfl) (fun K hK => ?_) AllReadyH.nil; go_simp; go_at_call 14; refine (at_of (by assumption) (G.out.2.2.2.2.2.2.2.1 _)).mono ?_; rintro e w' ⟨rfl, hx⟩; refine hK.out _ _ (by (try dsimp only); exact hx.out.2) (fun hHeld2 => ?_); clear hK K hHeld; rename _ => hHeld; (try simp only [Act.put, List.setIfInBounds_toArray, List.set_cons_zero, List.set_cons_succ])
    refine wpAnyH_take (i := 2) (v := ?_) (by rw [List.getElem?_toArray]; rfl) (by kernel_rfl) (by kernel_rfl) (by kernel_rfl) (by exact fun _ _ _ h => h) (Or.inl ⟨by rfl, ?_⟩) (by assumption) ?_; rotate_left; (((intro w hSw; (try dsimp only at hSw); go_simp) <;> with_reducible rfl)); (try simp only [Act.put, List.setIfInBounds_toArray, List.set_cons_zero, List.set_cons_succ])
    refine wpAnyH_take (i := 3) (v := ?_) (by rw [List.getElem?_toArray]; rfl) (by kernel_rfl) (by kernel_rfl) (by kernel_rfl) (by exact fun _ _ _ h => h) (Or.inl ⟨by rfl, ?_⟩) (by assumption) ?_; rotate_left; (((intro w hSw; (try dsimp only at hSw); go_simp) <;> with_reducible rfl)); (try simp only [Act.put, List.setIfInBounds_toArray, List.set_cons_zero, List.set_cons_succ])
    (refine wpAnyH_take (i := 4) (v := undef) (by rw [List.getElem?_toArray]; rfl) (by kernel_rfl) (by kernel_rfl) (by kernel_rfl) (by exact fun _ _ _ h => h) (Or.inr ⟨by rfl, rfl⟩) (by assumption) ?_; try simp only [Act.put, List.setIfInBounds_toArray, List.set_cons_zero, List.set_cons_succ])
    (refine wpAnyH_take (i := 5) (v := undef) (by rw [List.getElem?_toArray]; rfl) (by kernel_rfl) (by kernel_rfl) (by kernel_rfl) (by exact fun _ _ _ h => h) (Or.inr ⟨by rfl, rfl⟩) (by assumption) ?_; try simp only [Act.put, List.setIfInBounds_toArray, List.set_cons_zero, List.set_cons_succ])
    (refine wpAnyH_take (i := 6) (v := undef) (by rw [List.getElem?_toArray]; rfl) (by kernel_rfl) (by kernel_rfl) (by kernel_rfl) (by exact fun _ _ _ h => h) (Or.inr ⟨by rfl, rfl⟩) (by assumption) ?_; try simp only [Act.put, List.setIfInBounds_toArray, List.set_cons_zero, List.set_cons_succ])
    (refine wpAnyH_take (i := 7) (v := undef) (by rw [List.getElem?_toArray]; rfl) (by kernel_rfl) (by kernel_rfl) (by kernel_rfl) (by exact fun _ _ _ h => h) (Or.inr ⟨by rfl, rfl⟩) (by assumption) ?_; try simp only [Act.put, List.setIfInBounds_toArray, List.set_cons_zero, List.set_cons_succ])
    (refine wpAnyH_take (i := 8) (v := undef) (by rw [List.getElem?_toArray]; rfl) (by kernel_rfl) (by kernel_rfl) (by kernel_rfl) (by exact fun _ _ _ h => h) (Or.inr ⟨by rfl, rfl⟩) (by assumption) ?_; try simp only [Act.put, List.setIfInBounds_toArray, List.set_cons_zero, List.set_cons_succ])
    (refine wpAnyH_take (i := 9) (v := undef) (by rw [List.getElem?_toArray]; rfl) (by kernel_rfl) (by kernel_rfl) (by kernel_rfl) (by exact fun _ _ _ h => h) (Or.inr ⟨by rfl, rfl⟩) (by assumption) ?_; try simp only [Act.put, List.setIfInBounds_toArray, List.set_cons_zero, List.set_cons_succ])
    (refine wpAnyH_take (i := 10) (v := undef) (by rw [List.getElem?_toArray]; rfl) (by kernel_rfl) (by kernel_rfl) (by kernel_rfl) (by exact fun _ _ _ h => h) (Or.inr ⟨by rfl, rfl⟩) (by assumption) ?_; try simp only [Act.put, List.setIfInBounds_toArray, List.set_cons_zero, List.set_cons_succ])
    (refine wpAnyH_take (i := 11) (v := undef) (by rw [List.getElem?_toArray]; rfl) (by kernel_rfl) (by kernel_rfl) (by kernel_rfl) (by exact fun _ _ _ h => h) (Or.inr ⟨by rfl, rfl⟩) (by assumption) ?_; try simp only [Act.put, List.setIfInBounds_toArray, List.set_cons_zero, List.set_cons_succ])
    refine wpAnyH_take (i := 12) (v := ?_) (by rw [List.getElem?_toArray]; rfl) (by kernel_rfl) (by kernel_rfl) (by kernel_rfl) (by exact fun _ _ _ h => h) (Or.inl ⟨by rfl, ?_⟩) (by assumption) ?_; rotate_left; (((intro w hSw; (try dsimp only at hSw); go_simp) <;> with_reducible rfl)); (try simp only [Act.put, List.setIfInBounds_toArray, List.set_cons_zero, List.set_cons_succ])
    refine wpAnyH_take (i := 13) (v := ?_) (by rw [List.getElem?_toArray]; rfl) (by kernel_rfl) (by kernel_rfl) (by kernel_rfl) (by exact fun _ _ _ h => h) (Or.inl ⟨by rfl, ?_⟩) (by assumption) ?_; rotate_left; (((intro w hSw; (try dsimp only at hSw); go_simp) <;> with_reducible rfl)); (try simp only [Act.put, List.setIfInBounds_toArray, List.set_cons_zero, List.set_cons_succ])
    refine wpAnyH_take (i := 14) (v := ?_) (by rw [List.getElem?_toArray]; rfl) (by kernel_rfl) (by kernel_rfl) (by kernel_rfl) (by exact fun _ _ _ h => h) (Or.inl ⟨by rfl, ?_⟩) (by assumption) ?_; rotate_left; (((intro w hSw; (try dsimp only at hSw); go_simp) <;> with_reducible rfl)); (try simp only [Act.put, List.setIfInBounds_toArray, List.set_cons_zero, List.set_cons_succ])
    refine wpAnyH_take (i := 15) (v := ?_) (by rw [List.getElem?_toArray]; rfl) (by kernel_rfl) (by kernel_rfl) (by kernel_rfl) (by exact fun _ _ _ h => h) (Or.inl ⟨by rfl, ?_⟩) (by assumption) ?_; rotate_left; (((intro w hSw; (try dsimp only at hSw); go_simp) <;> with_reducible rfl)); (try simp only [Act.put, List.setIfInBounds_toArray, List.set_cons_zero, List.set_cons_succ])
    refine wpAnyH_take (i := 17) (v := ?_) (by rw [List.getElem?_toArray]; rfl) (by kernel_rfl) (by kernel_rfl) (by kernel_rfl) (by exact fun _ _ _ h => h) (Or.inl ⟨by rfl, ?_⟩) (by assumption) ?_; rotate_left; (((intro w hSw; (try dsimp only at hSw); go_simp) <;> with_reducible rfl)); (try simp only [Act.put, List.setIfInBounds_toArray, List.set_cons_zero, List.set_cons_succ])
    refine wpAnyH_ready (rs := [16]) (by kernel_rfl) (by simp) ?_; refine AllReadyH.cons (by rw [List.getElem?_toArray]; rfl) (fun K hK => ?_) AllReadyH.nil; go_simp; go_at_call 21; refine (at_of (by assumption) (G.out.2.2.2.2.1 _)).mono ?_; rintro e w' ⟨rfl, hx⟩; refine hK.out _ _ (by (try dsimp only); exact hx.out.2) (fun hHeld2 => ?_); clear hK K hHeld; rename _ => hHeld; (try simp only [Act.put, List.setIfInBounds_toArray, List.set_cons_zero, List.set_cons_succ])
    refine wpAnyH_ready (rs := [18]) (by kernel_rfl) (by simp) ?_; refine AllReadyH.cons (by rw [List.getElem?_toArray]; rfl) (fun K hK => ?_) AllReadyH.nil; go_simp; go_at_call 17; refine (at_of (by assumption) (G.out.2.2.2.2.2.1 _)).mono ?_; rintro e w' ⟨rfl, hx⟩; refine hK.out _ _ (by (try dsimp only); exact hx.out.2) (fun hHeld2 => ?_); clear hK K hHeld; rename _ => hHeld; (try simp only [Act.put, List.setIfInBounds_toArray, List.set_cons_zero, List.set_cons_succ])
    refine wpAnyH_take (i := 19) (v := ?_) (by rw [List.getElem?_toArray]; rfl) (by kernel_rfl) (by kernel_rfl) (by kernel_rfl) (by exact fun _ _ _ h => h) (Or.inl ⟨by rfl, ?_⟩) (by assumption) ?_; rotate_left; (((intro w hSw; (try dsimp only at hSw); go_simp) <;> with_reducible rfl)); (try simp only [Act.put, List.setIfInBounds_toArray, List.set_cons_zero, List.set_cons_succ])
    refine wpAnyH_take (i := 20) (v := ?_) (by rw [List.getElem?_toArray]; rfl) (by kernel_rfl) (by kernel_rfl) (by kernel_rfl) (by exact fun _ _ _ h => h) (Or.inl ⟨by rfl, ?_⟩) (by assumption) ?_; rotate_left; (((intro w hSw; (try dsimp only at hSw); go_simp) <;> with_reducible rfl)); (try simp only [Act.put, List.setIfInBounds_toArray, List.set_cons_zero, List.set_cons_succ])
    refine wpAnyH_take (i := 21) (v := ?_) (by rw [List.getElem?_toArray]; rfl) (by kernel_rfl) (by kernel_rfl) (by kernel_rfl) (by exact fun _ _ _ h => h) (Or.inl ⟨by rfl, ?_⟩) (by assumption) ?_; rotate_left; (((intro w hSw; (try dsimp only at hSw); go_simp) <;> with_reducible rfl)); (try simp only [Act.put, List.setIfInBounds_toArray, List.set_cons_zero, List.set_cons_succ])
    refine wpAnyH_ready (rs := [22]) (by kernel_rfl) (by simp) ?_; refine AllReadyH.cons (by rw [List.getElem?_toArray]; rfl) (fun K hK => ?_) AllReadyH.nil; go_simp; go_at_call 11; refine (alive_at (by assumption) G.out.2.2.2.2.2.2.2.2.2.2.2 hw).mono ?_; rintro e w' ⟨rfl, hx⟩; refine hK.out _ _ (by (try dsimp only); exact hx.out.2) (fun hHeld2 => ?_); clear hK K hHeld; rename _ => hHeld; (try simp only [Act.put, List.setIfInBounds_toArray, List.set_cons_zero, List.set_cons_succ])
    refine wpAnyH_take (i := 23) (v := ?_) (by rw [List.getElem?_toArray]; rfl) (by kernel_rfl) (by kernel_rfl) (by kernel_rfl) (by exact fun _ _ _ h => h) (Or.inl ⟨by rfl, ?_⟩) (by assumption) ?_; rotate_left; (((intro w hSw; (try dsimp only at hSw); go_simp) <;> with_reducible rfl)); (try simp only [Act.put, List.setIfInBounds_toArray, List.set_cons_zero, List.set_cons_succ])
    refine wpAnyH_take (i := 24) (v := ?_) (by rw [List.getElem?_toArray]; rfl) (by kernel_rfl) (by kernel_rfl) (by kernel_rfl) (by exact fun _ _ _ h => h) (Or.inl ⟨by rfl, ?_⟩) (by assumption) ?_; rotate_left; (((intro w hSw; (try dsimp only at hSw); go_simp) <;> with_reducible rfl)); (try simp only [Act.put, List.setIfInBounds_toArray, List.set_cons_zero, List.set_cons_succ])
    refine wpAnyH_done (by kernel_rfl) ?_ _
    go_wp2_with fail
    go_ret
    exact ⟨rfl, hx.out.1⟩
end Go.Proofs.YtcgbjodeklknoaaDoor.Vo
