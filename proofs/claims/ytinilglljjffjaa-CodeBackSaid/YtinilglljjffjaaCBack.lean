/- The walk of the law: what is written is read, in its order, and nothing is left. -/
import Derived.Test.YtinilglljjffjaaCWide
import Derived.Test.YtinilglljjffjaaCBk
import Derived.Test.YtinilglljjffjaaCOneLaw
import Derived.Test.YtinilglljjffjaaCKeyEq
namespace Go.Proofs.Ytinilglljjffjaa.Cd
set_option linter.unusedVariables false
set_option linter.unusedSimpArgs false
open Go.RowKit
open Go.Proofs.Ytinilglljjffjaa.Num

theorem par_tmod (n : Nat) : ((n : Int).tmod 2 == 1) = decide (n % 2 = 1) := by
  rw [Int.tmod_eq_emod_of_nonneg (by omega)]; exact par_nat n
theorem wrap8 (n : Nat) : IntKind.u8.wrap (n : Int) = ((UInt8.ofNat n).toNat : Int) := by
  rw [UInt8.toNat_ofNat']
  simp [IntKind.wrap, IntKind.bits, IntKind.signed]
set_option maxHeartbeats 8000000 in
set_option maxRecDepth 100000 in
theorem CodeBack_walk (a : Option Addr) (c : Nat) (l : List Fd) (ab : Option Addr) (cb : Nat) (mb : List UInt8) (W : World) (hr : FRow W a l) (hok : allOk l) (hc : l.length ≤ c) (hm : c ≤ 9223372036854775807) (hrb : Row8 W ab mb) (hbn : ab = none → cb = 0) :
    Calls Try.prog 5 #[.slice a l.length c, .slice ab mb.length cb] W fun e W' => e = .returned (.bool true) ∧ Below W.heap.size W W' := by
  have hL := long_f_calls a c l W hr hc hm
  cases hb : longF l with
  | true =>
    rw [hb] at hL
    have G := Lib.hid hL
    clear hL hr hok hc hm hb hrb
    go_enter Try.func5, Try.ntmps5
    go_wp2_with fail
    refine G.out.mono ?_
    rintro e w1 ⟨rfl, hb1⟩
    go_wp2_with fail
    refine (alive_calls w1).mono ?_
    rintro e w2 ⟨rfl, hb2⟩
    go_wp2_with fail
    go_ret
    exact ⟨rfl, hb1.trans (hb2.mono hb1.size)⟩
  | false =>
    rw [hb] at hL
    by_cases h6 : 65536 < mb.length
    · have h6i : (65536 : Int) < (mb.length : Int) := by omega
      have G := Lib.hid hL
      clear hL hr hok hc hm hb hrb h6
      go_enter Try.func5, Try.ntmps5
      go_wp2_with fail
      refine G.out.mono ?_
      rintro e w1 ⟨rfl, hb1⟩
      go_wp2_with fail
      refine (alive_calls w1).mono ?_
      rintro e w2 ⟨rfl, hb2⟩
      go_wp2_with fail
      go_ret
      exact ⟨rfl, hb1.trans (hb2.mono hb1.size)⟩
    · have h6i : ¬ (65536 : Int) < (mb.length : Int) := by omega
      have hcnt : countF (shortF l) ≤ 65536 := by
        unfold longF at hb
        have := of_decide_eq_false hb
        omega
      have h200 : (shortF l).length ≤ 200 := by rw [shortF_len]; omega
      obtain ⟨q, hq⟩ : ∃ q, q = shortF l := ⟨_, rfl⟩
      have hs : ∀ w, Calls Try.prog 10 #[.slice a l.length c] w fun e w' => e = .returned (.slice a q.length c) ∧ w' = w := fun w => by rw [hq]; exact short_f_calls a c l w hc hm
      have hrq : FRow W a q := by rw [hq]; exact hr.take _
      have hokq : allOk q := fun f hf => hok f (by rw [hq] at hf; exact List.take_subset _ _ hf)
      rw [← hq] at hcnt h200
      have hby := bytes_reach q 140737488351232 (by decide) (fun f hf => (hokq f hf).2) hcnt
      have G := Lib.hid (And.intro hL (And.intro hs (And.intro hrq (And.intro hokq (And.intro hby (And.intro hrb (And.intro (show mb.length ≤ 65536 from by omega) hbn)))))))
      clear hL hs hrq hokq hby hcnt hb hq hr hok hc hm hrb h6
      go_enter Try.func5, Try.ntmps5
      go_wp2_with fail
      refine G.out.1.mono ?_
      rintro e w1 ⟨rfl, hb1⟩
      go_wp2_with fail
      have hT : Two w1.heap.size w1.heap.size (w1.heap.size + 1) (.slice none 0 0) (.slice none 0 0) [] [] ((w1.alloc (.cells #[.slice none 0 0] 27)).alloc (.cells #[.slice none 0 0] 29)) := Two.new w1
      have hb2 : Below w1.heap.size w1 ((w1.alloc (.cells #[.slice none 0 0] 27)).alloc (.cells #[.slice none 0 0] 29)) := (below_alloc1 _ _).alloc (by simp) _
      have hs2 : w1.heap.size + 1 < ((w1.alloc (.cells #[.slice none 0 0] 27)).alloc (.cells #[.slice none 0 0] 29)).heap.size := by simp
      have H := Lib.hid (And.intro hT (And.intro hb2 (hb1.trans (hb2.mono hb1.size))))
      clear hT hb2
      generalize (w1.alloc (.cells #[.slice none 0 0] 27)).alloc (.cells #[.slice none 0 0] 29) = W2 at H hs2 ⊢
      refine (G.out.2.1 W2).mono ?_
      rintro e w2 ⟨rfl, rfl⟩
      go_wp2_with fail
      go_loopw [24] (fun i wr => ∃ (k : Nat) (v1 v2 : Value), k ≤ q.length ∧ i = .int .i64 (k : Int) ∧ Two w1.heap.size w1.heap.size (w1.heap.size + 1) v1 v2 (encL (q.take k)) (encL (q.take k)) wr ∧ Below W.heap.size W wr ∧ w1.heap.size + 1 < wr.heap.size) (fun i _ => q.length - (intOf i).toNat)
      case atStart => exact ⟨0, _, _, by omega, rfl, H.out.1, H.out.2.2, hs2⟩
      case round =>
        obtain ⟨k, v1, v2, hk, rfl, hT, hB, hsz⟩ := hrel
        by_cases hlt : k < q.length
        · obtain ⟨y, rfl, hcs⟩ : ∃ y, a = some y ∧ ∀ i : Nat, ∀ h : i < q.length, _ := (G.out.2.2.1.below hB).resolve_left (fun h => by rw [h] at hlt; simp at hlt)
          obtain ⟨c0, c1, c2, c3⟩ := hcs k hlt
          have hst : encL (q.take (k + 1)) = encL (q.take k) ++ encF q[k] := by rw [List.take_succ_eq_append_getElem hlt, encL_snoc]
          have hfo := G.out.2.2.2.1 q[k] (List.getElem_mem hlt)
          have hle := encL_len (q.take k)
          rw [List.length_take, Nat.min_eq_left hk] at hle
          have hby := bytesF_take q (k + 1)
          rw [List.take_succ_eq_append_getElem hlt, bytesF_snoc] at hby
          obtain ⟨f, hf⟩ : ∃ f, f = q[k] := ⟨_, rfl⟩
          rw [← hf] at c0 c1 c2 c3 hst hfo hby
          have hl : (encL (q.take k)).length + f.s.length + 2000 ≤ 140737488355328 := by have := G.out.2.2.2.2.1; omega
          have HT := Lib.hid (And.intro hst (And.intro hfo (And.intro hl (And.intro hT hB))))
          clear hst hfo hle hby hf hcs hT hB hl
          go_wp2_with fail
          have hb3 := below_alloc1 wr (.cells #[.int .u8 (f.k : Int), .int .u64 (f.n : Int), .string (txt f.s), .int .i64 f.most] 33)
          have H3 := Lib.hid (And.intro (HT.out.2.2.2.1.below hb3) (HT.out.2.2.2.2.trans (hb3.mono HT.out.2.2.2.2.size)))
          have hs3 := hb3.size
          clear hb3 c0 c1 c2 c3
          generalize wr.alloc (.cells #[.int .u8 (f.k : Int), .int .u64 (f.n : Int), .string (txt f.s), .int .i64 f.most] 33) = w3 at H3 hs3 ⊢
          refine (write_calls w1.heap.size w1.heap.size (w1.heap.size + 1) v1 v2 _ _ f HT.out.2.1.1 w3 H3.out.1 (Nat.le_refl _) (by omega) (by omega) ⟨HT.out.2.2.1, HT.out.2.2.1⟩).mono ?_
          rintro e w4 ⟨rfl, v1', v2', hT4, hb4⟩
          have hs4 := hb4.size
          have H4 := Lib.hid (And.intro hT4 (H3.out.2.trans (hb4.mono hb1.size)))
          have h4lt := hT4.w2.box.lt
          clear hT4 hb4
          go_wp2_with fail
          go_roundw
          case rel => exact ⟨k + 1, v1', v2', by omega, by go_num, by rw [HT.out.1]; exact H4.out.1, H4.out.2, by omega⟩
          case measure => (first | (simp [intOf]; done) | (simp [intOf]; omega))
        · obtain rfl : k = q.length := by omega
          rw [List.take_length] at hT
          have hle := encL_len q
          have hl : (encL q).length ≤ 140737488354000 := by have := G.out.2.2.2.2.1; omega
          obtain ⟨m, hm⟩ : ∃ m, m = encL q := ⟨_, rfl⟩
          have HM := Lib.hid hm
          rw [← hm] at hT hl
          clear hle hm
          have HT := Lib.hid (And.intro hT (And.intro hB hl))
          clear hT hB hl
          go_wp2_with fail
          refine (bytes_calls w1.heap.size w1.heap.size v1 m wr HT.out.1.w1 (by have := HT.out.2.2; omega)).mono ?_
          rintro e w5 ⟨v5, rfl, ho5, hb5⟩
          have hB5 := HT.out.2.1.trans (hb5.mono HT.out.2.1.size)
          have H5 := Lib.hid (And.intro ho5 (And.intro hB5 (And.intro (G.out.2.2.2.2.2.1.below hB5) (show m.length + mb.length ≤ 150000000000000 from by have := HT.out.2.2; have := G.out.2.2.2.2.2.2.1; omega))))
          have hs5 := hb5.size
          clear ho5 hb5 hB5
          go_wp2_with (at_builtin; refine wpList_append8W rfl (Operand.tmp 31) (Operand.tmp 32) 25 rfl wr.heap.size 5 Try.underlying25 info8 v5 m mb ab cb rfl H5.out.1 rfl H5.out.2.2.1 G.out.2.2.2.2.2.2.2 H5.out.2.2.2 (by omega) ?_; intro v6 w6 hown6 hgrow6)
          have hb6 := grown_below (Below.refl wr.heap.size w5) hs5 H5.out.1 (Nat.le_refl _) hgrow6
          obtain ⟨A6, c6, rfl, hr6, hc6, hm6, hn6⟩ := hown6.row
          have hB6 := H5.out.2.1.trans (hb6.mono HT.out.2.1.size)
          have hL : (m ++ mb).length ≤ 150000000000000 := by rw [List.length_append]; exact H5.out.2.2.2
          obtain ⟨L, hLe⟩ : ∃ L, L = m ++ mb := ⟨_, rfl⟩
          rw [← hLe] at hL hr6
          rw [← hLe]
          have H6 := Lib.hid (And.intro hr6 (And.intro hB6 (And.intro hL (show L = encL q ++ mb from by rw [hLe, HM.out]))))
          clear hr6 hB6 hL hLe hb6 hgrow6 hown6
          refine (newW_calls A6 c6 L w6 H6.out.1 hn6 H6.out.2.2.1).mono ?_
          rintro e w7 ⟨gr, A5, c5, rfl, hr7, hb7, hgr⟩
          have H7 := Lib.hid (And.intro (show Rst gr A5 c5 L ⟨(encL (q.take 0)).length, 0, 0⟩ w7 from hr7) (And.intro (H6.out.2.1.trans (hb7.mono H6.out.2.1.size)) (And.intro H6.out.2.2.2 (Nat.le_trans H6.out.2.1.size hgr))))
          clear hr7 hb7 hgr
          go_wp2_with fail
          refine ((G.out.2.1 w7)).mono ?_
          rintro e w8 ⟨rfl, rfl⟩
          go_wp2_with fail
          go_loopw [38] (fun i wr => ∃ (k : Nat), k ≤ q.length ∧ i = .int .i64 (k : Int) ∧ Rst gr A5 c5 L ⟨(encL (q.take k)).length, 0, 0⟩ wr ∧ Below W.heap.size W wr) (fun i _ => q.length - (intOf i).toNat)
          case atStart => exact ⟨0, by omega, rfl, H7.out.1, H7.out.2.1⟩
          case round =>
            obtain ⟨k, hk, rfl, hR, hB⟩ := hrel
            by_cases hlt : k < q.length
            · obtain ⟨y, rfl, hcs⟩ : ∃ y, a = some y ∧ ∀ i : Nat, ∀ h : i < q.length, _ := (G.out.2.2.1.below hB).resolve_left (fun h => by rw [h] at hlt; simp at hlt)
              obtain ⟨c0, c1, c2, c3⟩ := hcs k hlt
              have hst : encL (q.take (k + 1)) = encL (q.take k) ++ encF q[k] := by rw [List.take_succ_eq_append_getElem hlt, encL_snoc]
              have hfo := G.out.2.2.2.1 q[k] (List.getElem_mem hlt)
              have hspl : L = encL (q.take k) ++ (encF q[k] ++ (encL (q.drop (k + 1)) ++ mb)) := by rw [H7.out.2.2.1, encL_split q k hlt]; simp only [List.append_assoc]
              obtain ⟨f, hf⟩ : ∃ f, f = q[k] := ⟨_, rfl⟩
              rw [← hf] at c0 c1 c2 c3 hst hfo hspl
              have hgl := (Array.getElem?_eq_some_iff.1 hR.box).1
              have hx := heap_alloc_new wr (.cells f.cells 33)
              have hb3 := below_alloc1 wr (.cells f.cells 33)
              obtain ⟨w3, hw3⟩ : ∃ w3, w3 = wr.alloc (.cells f.cells 33) := ⟨_, rfl⟩
              rw [← hw3] at hx hb3
              have H3 := Lib.hid (And.intro (hR.below hb3) (And.intro (hB.trans (hb3.mono hB.size)) hx))
              obtain ⟨k0, k1, k2, k3⟩ := fd_cells hx
              replace hw3 : wr.alloc (.cells #[.int .u8 (f.k : Int), .int .u64 (f.n : Int), .string (txt f.s), .int .i64 f.most] 33) = w3 := hw3.symm
              clear hcs hR hB hf hb3 hx
              have hj5 : f.k % 5 = 0 ∨ f.k % 5 = 1 ∨ f.k % 5 = 2 ∨ f.k % 5 = 3 ∨ f.k % 5 = 4 := by omega
              rcases hj5 with hj | hj | hj | hj | hj
              · have j1 : (f.k : Int).tmod 5 = 0 := by rw [mod_five, hj]; rfl
                have j2 : (f.k : Int) % 5 = 0 := by omega
                have he : encF f = short f.n := by simp only [encF, hj]
                have hbk : fieldF 0 (readF 18446744073709551615) L ⟨(encL (q.take k)).length, 0, 0⟩ = (f.n, ⟨(encL (q.take k) ++ encF f).length, 0, 0⟩) := by rw [hspl, he]; exact field_back _ _ _ _ _ _ (back_num _ _ hfo.1.n (by have := hfo.1.n; omega) _)
                rw [← hst] at hbk
                have hrd : Calls Try.prog 19 #[.pointer (some ⟨gr, 0, none⟩), .int .u64 18446744073709551615] w3.drew fun e W' => e = .returned (.int .u64 (f.n : Int)) ∧ (W'.cell? ⟨wr.heap.size, 1, none⟩ = some (.int .u64 (f.n : Int))) ∧ Rst gr A5 c5 L ⟨(encL (q.take (k + 1))).length, 0, 0⟩ W' ∧ Below W.heap.size W W' ∧ W'.heap[wr.heap.size]? = some (.cells f.cells 33 (0, 0)) := by
                  have hc := rnum_calls gr A5 c5 L ⟨(encL (q.take k)).length, 0, 0⟩ 18446744073709551615 (by decide) w3.drew H3.out.1.drew
                  rw [hbk] at hc
                  refine hc.mono ?_
                  rintro e W' ⟨rfl, hr9, hb9⟩
                  have hx9 := But.heap hb9 (show w3.drew.heap[wr.heap.size]? = _ from H3.out.2.2) (by omega)
                  obtain ⟨k0, k1, k2, k3⟩ := fd_cells hx9
                  exact ⟨rfl, k1, hr9, H3.out.2.1.trans ((Below.refl _ _).drew.trans (hb9.below H7.out.2.2.2 H3.out.2.1.size)), hx9⟩
                have HR := Lib.hid hrd
                clear hrd hbk he hj hst hspl
                go_wp2_with fail
                go_region_held3 (fun W' => W'.cell? ⟨wr.heap.size, 1, none⟩ = some (.int .u64 (f.n : Int))) (first | exact k1 | exact h9s) (first | (go_at_call 19; ((with_reducible refine (HR.out).mono ?_); rintro e w' ⟨rfl, h9s, h9r, h9b, h9x⟩)))
                have H9 := Lib.hid (And.intro h9r h9b)
                clear h9s h9r h9b h9x HR hw3 k0 k1 k2 k3 c0 c1 c2 c3
                go_wp2_with fail
                go_roundw
                case rel => exact ⟨k + 1, by omega, by go_num, H9.out.1, H9.out.2⟩
                case measure => (first | (simp [intOf]; done) | (simp [intOf]; omega))
              · have j1 : (f.k : Int).tmod 5 = 1 := by rw [mod_five, hj]; rfl
                have j2 : (f.k : Int) % 5 = 1 := by omega
                have he : encF f = [UInt8.ofNat f.n] := by simp only [encF, hj]
                have hbk : fieldF 0 oneF L ⟨(encL (q.take k)).length, 0, 0⟩ = ((UInt8.ofNat f.n).toNat, ⟨(encL (q.take k) ++ encF f).length, 0, 0⟩) := by rw [hspl, he]; exact field_back _ _ _ _ _ _ (back_one _ _)
                rw [← hst] at hbk
                have hrd : Calls Try.prog 20 #[.pointer (some ⟨gr, 0, none⟩)] w3.drew fun e W' => e = .returned (.int .u8 (IntKind.u8.wrap (f.n : Int))) ∧ (W'.cell? ⟨wr.heap.size, 1, none⟩ = some (.int .u64 (f.n : Int))) ∧ Rst gr A5 c5 L ⟨(encL (q.take (k + 1))).length, 0, 0⟩ W' ∧ Below W.heap.size W W' ∧ W'.heap[wr.heap.size]? = some (.cells f.cells 33 (0, 0)) := by
                  have hc := rbyte_calls gr A5 c5 L ⟨(encL (q.take k)).length, 0, 0⟩  w3.drew H3.out.1.drew
                  rw [hbk] at hc
                  refine hc.mono ?_
                  rintro e W' ⟨rfl, hr9, hb9⟩
                  have hx9 := But.heap hb9 (show w3.drew.heap[wr.heap.size]? = _ from H3.out.2.2) (by omega)
                  obtain ⟨k0, k1, k2, k3⟩ := fd_cells hx9
                  exact ⟨by rw [wrap8], k1, hr9, H3.out.2.1.trans ((Below.refl _ _).drew.trans (hb9.below H7.out.2.2.2 H3.out.2.1.size)), hx9⟩
                have HR := Lib.hid hrd
                clear hrd hbk he hj hst hspl
                go_wp2_with fail
                go_region_held3 (fun W' => W'.cell? ⟨wr.heap.size, 1, none⟩ = some (.int .u64 (f.n : Int))) (first | exact k1 | exact h9s) (first | (go_at_call 20; ((with_reducible refine (HR.out).mono ?_); rintro e w' ⟨rfl, h9s, h9r, h9b, h9x⟩)))
                have H9 := Lib.hid (And.intro h9r h9b)
                clear h9s h9r h9b h9x HR hw3 k0 k1 k2 k3 c0 c1 c2 c3
                go_wp2_with fail
                go_roundw
                case rel => exact ⟨k + 1, by omega, by go_num, H9.out.1, H9.out.2⟩
                case measure => (first | (simp [intOf]; done) | (simp [intOf]; omega))
              · have j1 : (f.k : Int).tmod 5 = 2 := by rw [mod_five, hj]; rfl
                have j2 : (f.k : Int) % 5 = 2 := by omega
                have he : encF f = [tF (decide (f.n % 2 = 1))] := by simp only [encF, hj]
                have hbk : fieldF false truthF L ⟨(encL (q.take k)).length, 0, 0⟩ = (decide (f.n % 2 = 1), ⟨(encL (q.take k) ++ encF f).length, 0, 0⟩) := by rw [hspl, he]; exact field_back _ _ _ _ _ _ (back_truth _ _)
                rw [← hst] at hbk
                have hrd : Calls Try.prog 21 #[.pointer (some ⟨gr, 0, none⟩)] w3.drew fun e W' => e = .returned (.bool ((f.n : Int).tmod 2 == 1)) ∧ (W'.cell? ⟨wr.heap.size, 1, none⟩ = some (.int .u64 (f.n : Int))) ∧ Rst gr A5 c5 L ⟨(encL (q.take (k + 1))).length, 0, 0⟩ W' ∧ Below W.heap.size W W' ∧ W'.heap[wr.heap.size]? = some (.cells f.cells 33 (0, 0)) := by
                  have hc := rbool_calls gr A5 c5 L ⟨(encL (q.take k)).length, 0, 0⟩  w3.drew H3.out.1.drew
                  rw [hbk] at hc
                  refine hc.mono ?_
                  rintro e W' ⟨rfl, hr9, hb9⟩
                  have hx9 := But.heap hb9 (show w3.drew.heap[wr.heap.size]? = _ from H3.out.2.2) (by omega)
                  obtain ⟨k0, k1, k2, k3⟩ := fd_cells hx9
                  exact ⟨by rw [par_tmod], k1, hr9, H3.out.2.1.trans ((Below.refl _ _).drew.trans (hb9.below H7.out.2.2.2 H3.out.2.1.size)), hx9⟩
                have HR := Lib.hid hrd
                clear hrd hbk he hj hst hspl
                go_wp2_with fail
                go_region_held3 (fun W' => W'.cell? ⟨wr.heap.size, 1, none⟩ = some (.int .u64 (f.n : Int))) (first | exact k1 | exact h9s) (first | (go_at_call 21; ((with_reducible refine (HR.out).mono ?_); rintro e w' ⟨rfl, h9s, h9r, h9b, h9x⟩)))
                have H9 := Lib.hid (And.intro h9r h9b)
                clear h9s h9r h9b h9x HR hw3 k0 k1 k2 k3 c0 c1 c2 c3
                go_wp2_with fail
                go_roundw
                case rel => exact ⟨k + 1, by omega, by go_num, H9.out.1, H9.out.2⟩
                case measure => (first | (simp [intOf]; done) | (simp [intOf]; omega))
              · have j1 : (f.k : Int).tmod 5 = 3 := by rw [mod_five, hj]; rfl
                have j2 : (f.k : Int) % 5 = 3 := by omega
                have he : encF f = textF f.s := by simp only [encF, hj]
                have hbk : fieldF [] (textR ((f.s.length : Int)).toNat) L ⟨(encL (q.take k)).length, 0, 0⟩ = (f.s, ⟨(encL (q.take k) ++ encF f).length, 0, 0⟩) := by rw [hspl, he]; exact field_back _ _ _ _ _ _ (back_text _ _ (by have := hfo.2; omega) (by rw [Int.toNat_natCast]; exact Nat.le_refl _) _)
                rw [← hst] at hbk
                have hrd : Calls Try.prog 22 #[.pointer (some ⟨gr, 0, none⟩), .int .i64 (f.s.length : Int)] w3.drew fun e W' => e = .returned (.string (txt f.s)) ∧ (W'.cell? ⟨wr.heap.size, 2, none⟩ = some (.string (txt f.s))) ∧ Rst gr A5 c5 L ⟨(encL (q.take (k + 1))).length, 0, 0⟩ W' ∧ Below W.heap.size W W' ∧ W'.heap[wr.heap.size]? = some (.cells f.cells 33 (0, 0)) := by
                  have hc := rtext_calls gr A5 c5 L ⟨(encL (q.take k)).length, 0, 0⟩ (f.s.length : Int) (by omega) (by have := hfo.2; omega) w3.drew H3.out.1.drew
                  rw [hbk] at hc
                  refine hc.mono ?_
                  rintro e W' ⟨rfl, hr9, hb9⟩
                  have hx9 := But.heap hb9 (show w3.drew.heap[wr.heap.size]? = _ from H3.out.2.2) (by omega)
                  obtain ⟨k0, k1, k2, k3⟩ := fd_cells hx9
                  exact ⟨rfl, k2, hr9, H3.out.2.1.trans ((Below.refl _ _).drew.trans (hb9.below H7.out.2.2.2 H3.out.2.1.size)), hx9⟩
                have HR := Lib.hid hrd
                clear hrd hbk he hj hst hspl
                have hsz := txt_size f.s
                go_wp2_with fail
                go_region_held3 (fun W' => W'.cell? ⟨wr.heap.size, 2, none⟩ = some (.string (txt f.s))) (first | exact k2 | exact h9s) (first | (go_at_call 22; ((with_reducible refine (HR.out).mono ?_); rintro e w' ⟨rfl, h9s, h9r, h9b, h9x⟩)))
                have H9 := Lib.hid (And.intro h9r h9b)
                clear h9s h9r h9b h9x HR hw3 k0 k1 k2 k3 c0 c1 c2 c3
                go_wp2_with fail
                go_roundw
                case rel => exact ⟨k + 1, by omega, by go_num, H9.out.1, H9.out.2⟩
                case measure => (first | (simp [intOf]; done) | (simp [intOf]; omega))
              · have j1 : (f.k : Int).tmod 5 = 4 := by rw [mod_five, hj]; rfl
                have j2 : (f.k : Int) % 5 = 4 := by omega
                have he : encF f = keyOf f.s := by simp only [encF, hj]
                have hk8 : (keyOf f.s).length = 8 := padF_len f.s 8 (by omega)
                have hbk : fieldF zero8 keyR L ⟨(encL (q.take k)).length, 0, 0⟩ = (keyOf f.s, ⟨(encL (q.take k) ++ encF f).length, 0, 0⟩) := by rw [hspl, he]; exact field_back _ _ _ _ _ _ (back_key _ _ hk8)
                rw [← hst] at hbk
                have hrd : ∀ w, Rst gr A5 c5 L ⟨(encL (q.take k)).length, 0, 0⟩ w → Below W.heap.size W w → w.heap[wr.heap.size]? = some (.cells f.cells 33 (0, 0)) → Calls Try.prog 23 #[.pointer (some ⟨gr, 0, none⟩)] w fun e W' => e = .returned (keyV (keyOf f.s)) ∧ (W'.cell? ⟨wr.heap.size, 2, none⟩ = some (.string (txt f.s))) ∧ Rst gr A5 c5 L ⟨(encL (q.take (k + 1))).length, 0, 0⟩ W' ∧ Below W.heap.size W W' ∧ W'.heap[wr.heap.size]? = some (.cells f.cells 33 (0, 0)) := by
                  intro w hw1 hw2 hw3
                  have hc := rkey_calls gr A5 c5 L ⟨(encL (q.take k)).length, 0, 0⟩ w hw1
                  rw [hbk] at hc
                  refine hc.mono ?_
                  rintro e W' ⟨rfl, hr9, hb9⟩
                  have hx9 := But.heap hb9 hw3 (by omega)
                  obtain ⟨k0, k1, k2, k3⟩ := fd_cells hx9
                  exact ⟨rfl, k2, hr9, hw2.trans (hb9.below H7.out.2.2.2 hw2.size), hx9⟩
                have hky : ∀ s w, Rst gr A5 c5 L s w → Below W.heap.size W w → w.heap[wr.heap.size]? = some (.cells f.cells 33 (0, 0)) → Calls Try.prog 25 #[.string (txt f.s)] w fun e W' => e = .returned (keyV (keyOf f.s)) ∧ (W'.cell? ⟨wr.heap.size, 2, none⟩ = some (.string (txt f.s))) ∧ Rst gr A5 c5 L s W' ∧ Below W.heap.size W W' ∧ W'.heap[wr.heap.size]? = some (.cells f.cells 33 (0, 0)) := by
                  intro s w hw1 hw2 hw3
                  refine (lkey_calls f.s hfo.1.s w).mono ?_
                  rintro e W' ⟨rfl, hb9⟩
                  have hx9 := (hb9.block _ (Array.getElem?_eq_some_iff.1 hw3).1).trans hw3
                  obtain ⟨k0, k1, k2, k3⟩ := fd_cells hx9
                  exact ⟨rfl, k2, hw1.below hb9, hw2.trans (hb9.mono hw2.size), hx9⟩
                obtain ⟨kk, hkk⟩ : ∃ kk, kk = keyOf f.s := ⟨_, rfl⟩
                rw [← hkk] at hrd hky hk8
                obtain ⟨x0, x1, x2, x3, x4, x5, x6, x7, rfl⟩ := eight hk8
                have HR := Lib.hid (And.intro hrd (And.intro hky (And.intro (show w3.drew.heap[wr.heap.size]? = _ from H3.out.2.2) (show Below W.heap.size W w3.drew from H3.out.2.1.drew))))
                clear hrd hky hbk he hj hst hspl hkk hk8
                have hun : keyV [x0, x1, x2, x3, x4, x5, x6, x7] = .agg #[v8 x0, v8 x1, v8 x2, v8 x3, v8 x4, v8 x5, v8 x6, v8 x7] := rfl
                have heq : ∀ w, (Op.equalIn 10000 55 (.agg #[v8 x0, v8 x1, v8 x2, v8 x3, v8 x4, v8 x5, v8 x6, v8 x7]) (.agg #[v8 x0, v8 x1, v8 x2, v8 x3, v8 x4, v8 x5, v8 x6, v8 x7])).run Try.prog w = .ok true w := fun w => by
                  have := run_keys_eq w [x0, x1, x2, x3, x4, x5, x6, x7] [x0, x1, x2, x3, x4, x5, x6, x7] rfl rfl
                  rw [decide_eq_true rfl] at this
                  exact this
                go_wp2_with fail
                go_region_held3 (fun W' => W'.cell? ⟨wr.heap.size, 2, none⟩ = some (.string (txt f.s))) (first | exact k2 | exact h9s | exact g9s) (first | (go_at_call 23; ((with_reducible refine (HR.out.1 _ (by first | exact g9r | exact H3.out.1.drew) (by first | exact g9b | exact HR.out.2.2.2) (by first | exact g9x | exact HR.out.2.2.1)).mono ?_); rintro e w' ⟨rfl, h9s, h9r, h9b, h9x⟩)) | (go_at_call 25; ((with_reducible refine (HR.out.2.1 _ _ (by first | exact h9r | exact H3.out.1.drew) (by first | exact h9b | exact HR.out.2.2.2) (by first | exact h9x | exact HR.out.2.2.1)).mono ?_); rintro e w' ⟨rfl, g9s, g9r, g9b, g9x⟩)))
                have H9 := Lib.hid (And.intro g9r g9b)
                clear h9s h9r h9b h9x g9s g9r g9b g9x HR hw3 k0 k1 k2 k3 c0 c1 c2 c3 heq hun
                go_wp2_with fail
                go_roundw
                case rel => exact ⟨k + 1, by omega, by go_num, H9.out.1, H9.out.2⟩
                case measure => (first | (simp [intOf]; done) | (simp [intOf]; omega))

            · obtain rfl : k = q.length := by omega
              have hLl : L.length = (encL q).length + mb.length := by rw [H7.out.2.2.1, List.length_append]
              rw [List.take_length] at hR
              obtain ⟨p, hp⟩ : ∃ p, p = (encL q).length := ⟨_, rfl⟩
              rw [← hp] at hR hLl
              have hlf : leftF L ⟨p, 0, 0⟩ = mb.length := by unfold leftF; rw [if_pos ⟨rfl, rfl⟩]; simp only; omega
              have h1 := fault_calls gr A5 c5 L ⟨p, 0, 0⟩ wr hR
              have HA := Lib.hid (And.intro hR (And.intro hB (And.intro hLl (And.intro hlf h1))))
              have hgl := (Array.getElem?_eq_some_iff.1 hR.box).1
              clear hR hB hLl hlf h1 hp
              go_wp2_with fail
              refine HA.out.2.2.2.2.mono ?_
              rintro e wa ⟨rfl, hba⟩
              have Ha := Lib.hid (And.intro (HA.out.1.below hba) (HA.out.2.1.trans (hba.mono HA.out.2.1.size)))
              clear hba
              go_wp2_with fail
              refine (left_calls gr A5 c5 L ⟨p, 0, 0⟩ wa Ha.out.1).mono ?_
              rintro e wb ⟨rfl, hbb⟩
              have Hb := Lib.hid (And.intro (Ha.out.1.below hbb) (Ha.out.2.trans (hbb.mono Ha.out.2.size)))
              clear hbb
              rw [HA.out.2.2.2.1]
              go_wp2_with fail
              refine (end_calls gr A5 c5 L ⟨p, 0, 0⟩ wb Hb.out.1).mono ?_
              rintro e wc ⟨rfl, hrc, hbc⟩
              have Hc := Lib.hid (Hb.out.2.trans (hbc.below H7.out.2.2.2 Hb.out.2.size))
              clear hrc hbc
              unfold endF
              rw [HA.out.2.2.2.1]
              by_cases hmb : mb.length = 0
              · rw [if_neg (by omega)]
                have hmi : ((mb.length : Int) == 0) = true := by rw [beq_iff_eq]; omega
                clear hmb
                go_wp2_with fail
                refine (alive_calls wc).mono ?_
                rintro e wd ⟨rfl, hbd⟩
                go_wp2_with fail
                go_ret
                exact ⟨rfl, Hc.out.trans (hbd.mono Hc.out.size)⟩
              · rw [if_pos (by omega)]
                have hmi : ((mb.length : Int) == 0) = false := by rw [beq_eq_false_iff_ne]; omega
                clear hmb
                go_wp2_with fail
                refine (alive_calls wc).mono ?_
                rintro e wd ⟨rfl, hbd⟩
                go_wp2_with fail
                go_ret
                exact ⟨rfl, Hc.out.trans (hbd.mono Hc.out.size)⟩
end Go.Proofs.Ytinilglljjffjaa.Cd
