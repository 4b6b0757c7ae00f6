/- The walk of the law's key of a text. -/
import Derived.Test.YtinilglljjffjaaCR4
namespace Go.Proofs.Ytinilglljjffjaa.Cd
set_option linter.unusedVariables false
set_option linter.unusedSimpArgs false
open Go.RowKit
open Go.Proofs.Ytinilglljjffjaa.Num

/-- A text's first j bytes, and zeros. -/
def padF (m : List UInt8) (j : Nat) : List UInt8 := m.take j ++ zero8.drop (min j m.length)
def keyOf (m : List UInt8) : List UInt8 := padF m 8
theorem zero8_len : zero8.length = 8 := rfl
theorem padF_len (m : List UInt8) (j : Nat) (hj : j ≤ 8) : (padF m j).length = 8 := by
  unfold padF
  rw [List.length_append, List.length_take, List.length_drop, zero8_len]
  omega
theorem padF_step (m : List UInt8) (j : Nat) (hj : j < 8) (hm : j < m.length) : (padF m j).set j m[j] = padF m (j + 1) := by
  unfold padF
  have h1 : min j m.length = j := by omega
  have h2 : min (j + 1) m.length = j + 1 := by omega
  rw [h1, h2, List.set_append_right _ _ (by rw [List.length_take]; omega)]
  have h3 : j - (m.take j).length = 0 := by rw [List.length_take]; omega
  rw [h3, List.take_succ_eq_append_getElem hm, List.append_assoc]
  congr 1
  rw [List.drop_eq_getElem_cons (by rw [zero8_len]; exact hj)]
  rfl
theorem padF_end (m : List UInt8) (j : Nat) (hj : j ≤ 8) (h : ¬ (j < 8 ∧ j < m.length)) (hm : j ≤ m.length) : padF m j = keyOf m := by
  unfold keyOf
  by_cases h8 : j = 8
  · rw [h8]
  · have hjm : j = m.length := by omega
    unfold padF
    rw [hjm, List.take_length, List.take_of_length_le (by omega), Nat.min_self, Nat.min_eq_right (by omega)]
set_option maxHeartbeats 1000000 in
set_option maxRecDepth 100000 in
theorem lkey_calls (m : List UInt8) (hm : m.length ≤ 9223372036854775807) (W : World) :
    Calls Try.prog 25 #[.string (txt m)] W fun e W' => e = .returned (keyV (keyOf m)) ∧ Below W.heap.size W W' := by
  have hz := zeros2 W
  have hsz := txt_size m
  have G := Lib.hid hz
  clear hz
  obtain ⟨S, hS⟩ : ∃ S, S = txt m := ⟨_, rfl⟩
  rw [← hS] at hsz ⊢
  have HS := Lib.hid hS
  clear hS
  go_enter Try.func25, Try.ntmps25
  go_wp2_with fail
  generalize (W.alloc (.cells #[.int .u8 0, .int .u8 0, .int .u8 0, .int .u8 0, .int .u8 0, .int .u8 0, .int .u8 0, .int .u8 0] 55)).alloc (.cells #[.int .u8 0, .int .u8 0, .int .u8 0, .int .u8 0, .int .u8 0, .int .u8 0, .int .u8 0, .int .u8 0] 55) = W2 at G ⊢
  go_loopw [4] (fun i wr => ∃ j : Nat, j ≤ 8 ∧ j ≤ m.length ∧ i = .int .i64 (j : Int) ∧ KeyAt W.heap.size zero8 wr ∧ KeyAt (W.heap.size + 1) (padF m j) wr ∧ Below W.heap.size W wr) (fun i _ => 8 - (intOf i).toNat)
  case atStart => exact ⟨0, by omega, by omega, rfl, G.out.1, by simpa [padF] using G.out.2.1, G.out.2.2⟩
  case round =>
    obtain ⟨j, hj, hjm, rfl, hr, hk, hb⟩ := hrel
    have H := Lib.hid (And.intro hr (And.intro hk hb))
    clear hr hk hb
    by_cases hc : j < 8 ∧ j < m.length
    · have h8 := hc.1
      have hjl := hc.2
      have hfr := H.out.2.1.free j
      have hpl := padF_len m j hj
      have hcl : wr.cell? ⟨W.heap.size + 1, j, none⟩ = some (v8 ((padF m j)[j]'(by omega))) := by
        have h0 := H.out.2.1
        unfold KeyAt at h0
        have := cell_block (i := j) h0
        have ha : (⟨W.heap.size + 1, 0, none⟩ : Addr).add j = ⟨W.heap.size + 1, j, none⟩ := by unfold Addr.add; split <;> simp_all
        rw [ha] at this
        rw [this]
        simp [hpl, h8]
      have hst := padF_step m j h8 hjl
      obtain ⟨x, hx⟩ : ∃ x, x = m[j] := ⟨_, rfl⟩
      obtain ⟨u, hu⟩ : ∃ u, u = v8 ((padF m j)[j]'(by omega)) := ⟨_, rfl⟩
      rw [← hu] at hcl
      rw [← hx] at hst
      have HX := Lib.hid (And.intro hst hx)
      clear hst hx hu hc hpl
      go_wp2_with fail
      have hsx : ∀ h : j < S.size, S[j]'h = x := by
        intro h
        have h1 := HX.out.2
        rw [h1]
        have h2 := HS.out
        subst h2
        rfl
      refine ⟨⟨j + 1, by omega, by omega, by go_num, ?_, ?_, ?_⟩, by (first | (simp [intOf]; done) | (simp [intOf]; omega))⟩
      · exact key_setc H.out.1 (by omega) _ _
      · have h0 := H.out.2.1
        unfold KeyAt at h0 ⊢
        rw [block_set h0, hsx, ← HX.out.1]
        simp [v8]
      · exact H.out.2.2.setCell (p := ⟨W.heap.size + 1, j, none⟩) (by show W.heap.size ≤ W.heap.size + 1; omega) _
    · have hke := padF_end m j hj hc hjm
      have hk8 : (keyOf m).length = 8 := padF_len m 8 (by omega)
      have hz := H.out.2.1
      rw [hke] at hz
      obtain ⟨K, hK⟩ : ∃ K, K = keyOf m := ⟨_, rfl⟩
      rw [← hK] at hk8 hz
      obtain ⟨x0, x1, x2, x3, x4, x5, x6, x7, rfl⟩ := eight hk8
      have HK := Lib.hid (And.intro hz hK)
      clear hz hK hke
      by_cases h8 : j < 8
      · have hjl : ¬ j < m.length := fun h => hc ⟨h8, h⟩
        clear hc
        obtain ⟨n0, n1, n2, n3, n4, n5, n6, n7⟩ := HK.out.1.cells
        obtain ⟨r0, r1, r2, r3, r4, r5, r6, r7⟩ := H.out.1.zero
        have f0 := H.out.1.free 0; have f1 := H.out.1.free 1; have f2 := H.out.1.free 2; have f3 := H.out.1.free 3; have f4 := H.out.1.free 4; have f5 := H.out.1.free 5; have f6 := H.out.1.free 6; have f7 := H.out.1.free 7
        go_wp2_with fail
        refine bodyPost_ret (v := keyV [x0, x1, x2, x3, x4, x5, x6, x7]) (by simp [results, Try.results25, go_sem, keyV, v8, r0, r1, r2, r3, r4, r5, r6, r7]) rfl ⟨by rw [HK.out.2], ?_⟩
        exact below_set8 H.out.2.2 (Nat.le_refl _) _ _ _ _ _ _ _ _
      · clear hc
        obtain ⟨n0, n1, n2, n3, n4, n5, n6, n7⟩ := HK.out.1.cells
        obtain ⟨r0, r1, r2, r3, r4, r5, r6, r7⟩ := H.out.1.zero
        have f0 := H.out.1.free 0; have f1 := H.out.1.free 1; have f2 := H.out.1.free 2; have f3 := H.out.1.free 3; have f4 := H.out.1.free 4; have f5 := H.out.1.free 5; have f6 := H.out.1.free 6; have f7 := H.out.1.free 7
        go_wp2_with fail
        refine bodyPost_ret (v := keyV [x0, x1, x2, x3, x4, x5, x6, x7]) (by simp [results, Try.results25, go_sem, keyV, v8, r0, r1, r2, r3, r4, r5, r6, r7]) rfl ⟨by rw [HK.out.2], ?_⟩
        exact below_set8 H.out.2.2 (Nat.le_refl _) _ _ _ _ _ _ _ _
end Go.Proofs.Ytinilglljjffjaa.Cd
