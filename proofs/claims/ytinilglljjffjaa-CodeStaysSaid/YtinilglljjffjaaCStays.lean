/- The walk of the law: behind a fault nothing is read, and the fault stays. -/
import Derived.Test.YtinilglljjffjaaCRead
namespace Go.Proofs.Ytinilglljjffjaa.Cd
set_option linter.unusedVariables false
set_option linter.unusedSimpArgs false
open Go.RowKit
open Go.Proofs.Ytinilglljjffjaa.Num

theorem field_stuck {α : Type} (z : α) (rd : List UInt8 → α × Nat × Nat) (l : List UInt8) (s : Rs) (h : ¬ (s.why = 0 ∧ s.fat = 0)) : fieldF z rd l s = (z, s) := by
  unfold fieldF
  rw [if_neg h]
theorem left_stuck (l : List UInt8) (s : Rs) (h : ¬ (s.why = 0 ∧ s.fat = 0)) : leftF l s = 0 := by
  unfold leftF
  rw [if_neg h]
theorem end_stuck (l : List UInt8) (s : Rs) (h : ¬ (s.why = 0 ∧ s.fat = 0)) : endF l s = s := by
  unfold endF
  rw [left_stuck l s h, if_neg (by decide)]
theorem left_end (l : List UInt8) (s : Rs) : (endF l s).why = 0 ∧ (endF l s).fat = 0 → leftF l (endF l s) = 0 := by
  unfold endF
  split
  · intro h; simp at h
  · intro _; omega
set_option maxHeartbeats 8000000 in
set_option maxRecDepth 100000 in
theorem CodeStays_walk (ab : Option Addr) (cb : Nat) (lb : List UInt8) (a1 : Option Addr) (cc1 : Nat) (l1 : List Fd) (a2 : Option Addr) (cc2 : Nat) (l2 : List Fd) (W : World) (hrb : Row8 W ab lb) (hbn : ab = none → cb = 0) (hlb : lb.length ≤ 9223372036854775807) (h1 : FRow W a1 l1) (ok1 : allOk l1) (hc1 : l1.length ≤ cc1) (hm1 : cc1 ≤ 9223372036854775807) (h2 : FRow W a2 l2) (hc2 : l2.length ≤ cc2) (hm2 : cc2 ≤ 9223372036854775807) :
    Calls Try.prog 4 #[.slice ab lb.length cb, .slice a1 l1.length cc1, .slice a2 l2.length cc2] W fun e W' => e = .returned (.bool true) ∧ Below W.heap.size W W' := by
  by_cases h6 : 65536 < lb.length
  · have h6i : (65536 : Int) < (lb.length : Int) := by omega
    clear hrb hlb h6 h1 h2 hc1 hc2 hm1 hm2
    go_enter Try.func4, Try.ntmps4
    go_wp2_with fail
    refine (alive_calls W).mono ?_
    rintro e w2 ⟨rfl, hb2⟩
    go_wp2_with fail
    go_ret
    exact ⟨rfl, hb2⟩
  · have h6i : ¬ (65536 : Int) < (lb.length : Int) := by omega
    have hL1 := long_f_calls a1 cc1 l1 W h1 hc1 hm1
    have hL2 := fun w h => long_f_calls a2 cc2 l2 w h hc2 hm2
    have h65 : lb.length ≤ 65536 := by omega
    clear h6 hlb
    cases hg1 : longF l1 with
    | true =>
      rw [hg1] at hL1
      have G := Lib.hid hL1
      clear hL1 hL2 hrb h1 h2 hc1 hc2 hm1 hm2 h65 hg1
      go_enter Try.func4, Try.ntmps4
      go_wp2_with fail
      refine G.out.mono ?_
      rintro e w1 ⟨rfl, hb1⟩
      go_wp2_with fail
      refine (alive_calls w1).mono ?_
      rintro e wE ⟨rfl, hbE⟩
      go_wp2_with fail
      go_ret
      exact ⟨rfl, (hb1).trans (hbE.mono (hb1).size)⟩
    | false =>
      rw [hg1] at hL1
      cases hg2 : longF l2 with
      | true =>
        rw [hg2] at hL2
        have G := Lib.hid (And.intro hL1 (And.intro hL2 h2))
        clear hL1 hL2 hrb h1 h2 hc1 hc2 hm1 hm2 h65 hg1 hg2
        go_enter Try.func4, Try.ntmps4
        go_wp2_with fail
        refine G.out.1.mono ?_
        rintro e w1 ⟨rfl, hb1⟩
        go_wp2_with fail
        refine (G.out.2.1 w1 (G.out.2.2.below hb1)).mono ?_
        rintro e w2 ⟨rfl, hb2⟩
        have hB2 := hb1.trans (hb2.mono hb1.size)
        go_wp2_with fail
        refine (alive_calls w2).mono ?_
        rintro e wE ⟨rfl, hbE⟩
        go_wp2_with fail
        go_ret
        exact ⟨rfl, (hB2).trans (hbE.mono (hB2).size)⟩
      | false =>
        rw [hg2] at hL2
        have hq1l : (shortF l1).length ≤ 200 := by rw [shortF_len]; omega
        have hq2l : (shortF l2).length ≤ 200 := by rw [shortF_len]; omega
        obtain ⟨q1, hq1⟩ : ∃ q, q = shortF l1 := ⟨_, rfl⟩
        obtain ⟨q2, hq2⟩ : ∃ q, q = shortF l2 := ⟨_, rfl⟩
        have hs1 : ∀ w, Calls Try.prog 10 #[.slice a1 l1.length cc1] w fun e w' => e = .returned (.slice a1 q1.length cc1) ∧ w' = w := fun w => by rw [hq1]; exact short_f_calls a1 cc1 l1 w hc1 hm1
        have hs2 : ∀ w, Calls Try.prog 10 #[.slice a2 l2.length cc2] w fun e w' => e = .returned (.slice a2 q2.length cc2) ∧ w' = w := fun w => by rw [hq2]; exact short_f_calls a2 cc2 l2 w hc2 hm2
        have hrq : FRow W a1 q1 := by rw [hq1]; exact h1.take _
        have hokq : allOk q1 := fun f hf => ok1 f (by rw [hq1] at hf; exact List.take_subset _ _ hf)
        rw [← hq1] at hq1l
        rw [← hq2] at hq2l
        have G := Lib.hid (And.intro hL1 (And.intro hL2 (And.intro hs1 hs2)))
        have HB := Lib.hid (And.intro h2 (And.intro (And.intro hrq hokq) (And.intro hrb (And.intro hbn h65))))
        clear hL1 hL2 hs1 hs2 hrq hokq hrb h1 h2 hc1 hc2 hm1 hm2 h65 hg1 hg2 hq1 hq2 ok1
        go_enter Try.func4, Try.ntmps4
        go_wp2_with fail
        refine (G.out.1).mono ?_
        rintro e w1 ⟨rfl, hb1⟩
        go_wp2_with fail
        refine (G.out.2.1 w1 (HB.out.1.below hb1)).mono ?_
        rintro e w2 ⟨rfl, hb2⟩
        have hB2 := hb1.trans (hb2.mono hb1.size)
        have K2 := Lib.hid (And.intro hB2 (HB.out.2.2.1.below hB2))
        clear hb1 hb2 hB2
        go_wp2_with fail
        refine (newX_calls ab cb lb w2 K2.out.2 HB.out.2.2.2.1 (by have := HB.out.2.2.2.2; omega)).mono ?_
        rintro e w3 ⟨gr, A5, c5, rfl, hr3, hb3, hgr, hA5⟩
        have hg3 := (Array.getElem?_eq_some_iff.1 hr3.box).1
        have hB3 := K2.out.1.trans (hb3.mono K2.out.1.size)
        have hgW : W.heap.size ≤ gr := Nat.le_trans K2.out.1.size hgr
        have K3 := Lib.hid (And.intro hr3 (And.intro hB3 (HB.out.2.2.1.below hB3)))
        clear hr3 hb3 hB3
        go_wp2_with fail
        refine (qnew_calls ab cb lb w3 K3.out.2.2 HB.out.2.2.2.1 (by have := HB.out.2.2.2.2; omega)).mono ?_
        rintro e w4 ⟨Av, cv, rfl, hrv, hlv, hmv, hnv, hAv, hb4⟩
        have hs4 := hb4.size
        have hq5 : Qst w4.heap.size Av cv lb ⟨0, 0, 0⟩ (w4.alloc (.cells #[.slice Av lb.length cv, .int .i64 0, .int .i64 0, .int .i64 0] 45)) :=
          ⟨heap_alloc_new _ _, hrv.below (below_alloc1 _ _), hlv, hmv, hnv, fun x hx => (hAv x hx).2, Nat.zero_le _, Nat.zero_le _, Nat.zero_le _⟩
        have hb5 := hb4.alloc hs4 (.cells #[.slice Av lb.length cv, .int .i64 0, .int .i64 0, .int .i64 0] 45)
        have hAg : ∀ x, Av = some x → gr < x.block := fun x hx => by have := (hAv x hx).1; omega
        have hgv : gr < w4.heap.size := by omega
        have K5 := Lib.hid (And.intro (K3.out.1.below hb5) (And.intro hq5 (And.intro (K3.out.2.1.trans (hb5.mono K3.out.2.1.size)) hAg)))
        clear hrv hlv hmv hnv hAv hb4 hq5 hb5 hAg
        go_wp2_with fail
        generalize hgve : w4.heap.size = gv at K5 hgv ⊢
        generalize w4.alloc (.cells #[.slice Av lb.length cv, .int .i64 0, .int .i64 0, .int .i64 0] 45) = w5 at K5 ⊢
        clear hgve
        refine (G.out.2.2.1 w5).mono ?_
        rintro e w5 ⟨rfl, rfl⟩
        go_wp2_with fail
        go_loopw [31] (fun i wr => ∃ (k : Nat) (s sv : Rs), k ≤ q1.length ∧ i = .int .i64 (k : Int) ∧ Rst gr A5 c5 lb s wr ∧ Qst gv Av cv lb sv wr ∧ Below W.heap.size W wr) (fun i _ => q1.length - (intOf i).toNat)
        case atStart => exact ⟨0, ⟨0, 0, 0⟩, ⟨0, 0, 0⟩, by omega, rfl, K5.out.1, K5.out.2.1, K5.out.2.2.1⟩
        case round =>
          obtain ⟨k, s, sv, hk, rfl, hR, hQ, hB⟩ := hrel
          by_cases hlt : k < q1.length
          · obtain ⟨y, rfl, hcs⟩ : ∃ y, a1 = some y ∧ ∀ i : Nat, ∀ h : i < q1.length, _ := (HB.out.2.1.1.below hB).resolve_left (fun h => by rw [h] at hlt; simp at hlt)
            obtain ⟨c0, c1, c2, c3⟩ := hcs k hlt
            have hfo := HB.out.2.1.2 q1[k] (List.getElem_mem hlt)
            obtain ⟨f, hf⟩ : ∃ f, f = q1[k] := ⟨_, rfl⟩
            rw [← hf] at c0 c1 c2 c3 hfo
            have HT := Lib.hid (And.intro hfo (And.intro hR (And.intro hQ hB)))
            clear hfo hf hcs hR hQ hB
            go_wp2_with fail
            have hb3 := below_alloc1 wr (.cells #[.int .u8 (f.k : Int), .int .u64 (f.n : Int), .string (txt f.s), .int .i64 f.most] 33)
            have H3 := Lib.hid (And.intro (HT.out.2.1.below hb3) (And.intro (HT.out.2.2.1.below hb3) (HT.out.2.2.2.trans (hb3.mono HT.out.2.2.2.size))))
            clear hb3 c0 c1 c2 c3
            generalize wr.alloc (.cells #[.int .u8 (f.k : Int), .int .u64 (f.n : Int), .string (txt f.s), .int .i64 f.most] 33) = w6 at H3 ⊢
            refine (lread_calls W.heap.size gr gv A5 Av c5 cv lb s sv f HT.out.1.1 w6 H3.out.1 H3.out.2.1 hgv K5.out.2.2.2 hgW (by omega)).mono ?_
            rintro e w7 ⟨b, s', sv', rfl, hr7, hq7, hb7⟩
            have H7 := Lib.hid (And.intro hr7 (And.intro hq7 (H3.out.2.2.trans hb7)))
            clear hr7 hq7 hb7
            go_wp2_with fail
            go_roundw
            case rel => exact ⟨k + 1, s', sv', by omega, by go_num, H7.out.1, H7.out.2.1, H7.out.2.2⟩
            case measure => (first | (simp [intOf]; done) | (simp [intOf]; omega))
          · obtain rfl : k = q1.length := by omega
            have HR := Lib.hid (And.intro hR hB)
            have hlend := left_end lb s
            clear hR hQ hB
            go_wp2_with fail
            refine (end_calls gr A5 c5 lb s wr HR.out.1).mono ?_
            rintro e w5b ⟨rfl, hrE, hbE⟩
            obtain ⟨sF, hsF⟩ : ∃ sF, sF = endF lb s := ⟨_, rfl⟩
            rw [← hsF] at hrE hlend ⊢
            have hBE := HR.out.2.trans (hbE.below hgW HR.out.2.size)
            have hglE := (Array.getElem?_eq_some_iff.1 hrE.box).1
            have hb6 := below_alloc1 w5b (.cells #[.int .i64 (sF.why : Int), .int .i64 (sF.fat : Int)] 43)
            have hx6 := heap_alloc_new w5b (.cells #[.int .i64 (sF.why : Int), .int .i64 (sF.fat : Int)] 43)
            have H6 := Lib.hid (And.intro (hrE.below hb6) (And.intro (hBE.trans (hb6.mono hBE.size)) hx6))
            clear hrE hbE hBE hb6 hx6 hsF
            by_cases hne : sF.why = 0 ∧ sF.fat = 0
            · have hl0 := hlend hne
              have w0 : ((sF.why : Int) == 0) = true := by rw [beq_iff_eq]; omega
              have w1' : ((sF.fat : Int) == 0) = true := by rw [beq_iff_eq]; omega
              clear hlend hne
              go_wp2_with fail
              generalize w5b.alloc (.cells #[.int .i64 (sF.why : Int), .int .i64 (sF.fat : Int)] 43) = w6 at H6 ⊢
              have hleft := left_calls gr A5 c5 lb sF w6 H6.out.1
              rw [hl0] at hleft
              have HLf := Lib.hid hleft
              clear hleft
              refine HLf.out.mono ?_
              rintro e w7 ⟨rfl, hb7⟩
              have hB7 := H6.out.2.1.trans (hb7.mono H6.out.2.1.size)
              go_wp2_with fail
              refine (alive_calls w7).mono ?_
              rintro e wE ⟨rfl, hbE⟩
              go_wp2_with fail
              go_ret
              exact ⟨rfl, (hB7).trans (hbE.mono (hB7).size)⟩
            · obtain ⟨bf, hbfe⟩ : ∃ bf, bf = w5b.heap.size := ⟨_, rfl⟩
              rw [← hbfe] at H6 hglE
              have hcell : ∀ w' : World, w'.heap[bf]? = some (.cells #[.int .i64 (sF.why : Int), .int .i64 (sF.fat : Int)] 43 (0, 0)) → w'.cell? ⟨bf, 0, none⟩ = some (.int .i64 (sF.why : Int)) ∧ w'.cell? ⟨bf, 1, none⟩ = some (.int .i64 (sF.fat : Int)) := fun w' h => by simp [World.cell?, h]
              have cN : ∀ w, Rst gr A5 c5 lb sF w → Below W.heap.size W w → w.heap[bf]? = some (.cells #[.int .i64 (sF.why : Int), .int .i64 (sF.fat : Int)] 43 (0, 0)) → Calls Try.prog 19 #[.pointer (some ⟨gr, 0, none⟩), .int .u64 18446744073709551615] w fun e W' => e = .returned (.int .u64 0) ∧ (W'.cell? ⟨bf, 0, none⟩ = some (.int .i64 (sF.why : Int)) ∧ W'.cell? ⟨bf, 1, none⟩ = some (.int .i64 (sF.fat : Int))) ∧ Rst gr A5 c5 lb sF W' ∧ Below W.heap.size W W' ∧ W'.heap[bf]? = some (.cells #[.int .i64 (sF.why : Int), .int .i64 (sF.fat : Int)] 43 (0, 0)) := by
                intro w h1 h2 h3
                have hc := rnum_calls gr A5 c5 lb sF 18446744073709551615 (by decide) w h1
                rw [field_stuck 0 _ lb sF hne] at hc
                refine hc.mono ?_
                rintro e W' ⟨rfl, hr, hb⟩
                have hx := hb.heap h3 (by omega)
                exact ⟨rfl, hcell W' hx, hr, h2.trans (hb.below hgW h2.size), hx⟩
              have cB : ∀ w, Rst gr A5 c5 lb sF w → Below W.heap.size W w → w.heap[bf]? = some (.cells #[.int .i64 (sF.why : Int), .int .i64 (sF.fat : Int)] 43 (0, 0)) → Calls Try.prog 20 #[.pointer (some ⟨gr, 0, none⟩)] w fun e W' => e = .returned (.int .u8 0) ∧ (W'.cell? ⟨bf, 0, none⟩ = some (.int .i64 (sF.why : Int)) ∧ W'.cell? ⟨bf, 1, none⟩ = some (.int .i64 (sF.fat : Int))) ∧ Rst gr A5 c5 lb sF W' ∧ Below W.heap.size W W' ∧ W'.heap[bf]? = some (.cells #[.int .i64 (sF.why : Int), .int .i64 (sF.fat : Int)] 43 (0, 0)) := by
                intro w h1 h2 h3
                have hc := rbyte_calls gr A5 c5 lb sF w h1
                rw [field_stuck 0 _ lb sF hne] at hc
                refine hc.mono ?_
                rintro e W' ⟨rfl, hr, hb⟩
                have hx := hb.heap h3 (by omega)
                exact ⟨rfl, hcell W' hx, hr, h2.trans (hb.below hgW h2.size), hx⟩
              have cT : ∀ w, Rst gr A5 c5 lb sF w → Below W.heap.size W w → w.heap[bf]? = some (.cells #[.int .i64 (sF.why : Int), .int .i64 (sF.fat : Int)] 43 (0, 0)) → Calls Try.prog 21 #[.pointer (some ⟨gr, 0, none⟩)] w fun e W' => e = .returned (.bool false) ∧ (W'.cell? ⟨bf, 0, none⟩ = some (.int .i64 (sF.why : Int)) ∧ W'.cell? ⟨bf, 1, none⟩ = some (.int .i64 (sF.fat : Int))) ∧ Rst gr A5 c5 lb sF W' ∧ Below W.heap.size W W' ∧ W'.heap[bf]? = some (.cells #[.int .i64 (sF.why : Int), .int .i64 (sF.fat : Int)] 43 (0, 0)) := by
                intro w h1 h2 h3
                have hc := rbool_calls gr A5 c5 lb sF w h1
                rw [field_stuck false _ lb sF hne] at hc
                refine hc.mono ?_
                rintro e W' ⟨rfl, hr, hb⟩
                have hx := hb.heap h3 (by omega)
                exact ⟨rfl, hcell W' hx, hr, h2.trans (hb.below hgW h2.size), hx⟩
              have cX : ∀ w, Rst gr A5 c5 lb sF w → Below W.heap.size W w → w.heap[bf]? = some (.cells #[.int .i64 (sF.why : Int), .int .i64 (sF.fat : Int)] 43 (0, 0)) → Calls Try.prog 22 #[.pointer (some ⟨gr, 0, none⟩), .int .i64 9] w fun e W' => e = .returned (.string (txt [])) ∧ (W'.cell? ⟨bf, 0, none⟩ = some (.int .i64 (sF.why : Int)) ∧ W'.cell? ⟨bf, 1, none⟩ = some (.int .i64 (sF.fat : Int))) ∧ Rst gr A5 c5 lb sF W' ∧ Below W.heap.size W W' ∧ W'.heap[bf]? = some (.cells #[.int .i64 (sF.why : Int), .int .i64 (sF.fat : Int)] 43 (0, 0)) := by
                intro w h1 h2 h3
                have hc := rtext_calls gr A5 c5 lb sF 9 (by decide) (by decide) w h1
                rw [field_stuck [] _ lb sF hne] at hc
                refine hc.mono ?_
                rintro e W' ⟨rfl, hr, hb⟩
                have hx := hb.heap h3 (by omega)
                exact ⟨rfl, hcell W' hx, hr, h2.trans (hb.below hgW h2.size), hx⟩
              have cK : ∀ w, Rst gr A5 c5 lb sF w → Below W.heap.size W w → w.heap[bf]? = some (.cells #[.int .i64 (sF.why : Int), .int .i64 (sF.fat : Int)] 43 (0, 0)) → Calls Try.prog 23 #[.pointer (some ⟨gr, 0, none⟩)] w fun e W' => e = .returned (keyV zero8) ∧ (W'.cell? ⟨bf, 0, none⟩ = some (.int .i64 (sF.why : Int)) ∧ W'.cell? ⟨bf, 1, none⟩ = some (.int .i64 (sF.fat : Int))) ∧ Rst gr A5 c5 lb sF W' ∧ Below W.heap.size W W' ∧ W'.heap[bf]? = some (.cells #[.int .i64 (sF.why : Int), .int .i64 (sF.fat : Int)] 43 (0, 0)) := by
                intro w h1 h2 h3
                have hc := rkey_calls gr A5 c5 lb sF w h1
                rw [field_stuck zero8 _ lb sF hne] at hc
                refine hc.mono ?_
                rintro e W' ⟨rfl, hr, hb⟩
                have hx := hb.heap h3 (by omega)
                exact ⟨rfl, hcell W' hx, hr, h2.trans (hb.below hgW h2.size), hx⟩
              have cL : ∀ w, Rst gr A5 c5 lb sF w → Below W.heap.size W w → w.heap[bf]? = some (.cells #[.int .i64 (sF.why : Int), .int .i64 (sF.fat : Int)] 43 (0, 0)) → Calls Try.prog 18 #[.pointer (some ⟨gr, 0, none⟩)] w fun e W' => e = .returned (.int .i64 0) ∧ (W'.cell? ⟨bf, 0, none⟩ = some (.int .i64 (sF.why : Int)) ∧ W'.cell? ⟨bf, 1, none⟩ = some (.int .i64 (sF.fat : Int))) ∧ Rst gr A5 c5 lb sF W' ∧ Below W.heap.size W W' ∧ W'.heap[bf]? = some (.cells #[.int .i64 (sF.why : Int), .int .i64 (sF.fat : Int)] 43 (0, 0)) := by
                intro w h1 h2 h3
                have hc := left_calls gr A5 c5 lb sF w h1
                rw [left_stuck lb sF hne] at hc
                refine hc.mono ?_
                rintro e W' ⟨rfl, hb⟩
                have hx := (hb.block _ (Array.getElem?_eq_some_iff.1 h3).1).trans h3
                exact ⟨rfl, hcell W' hx, h1.below hb, h2.trans (hb.mono h2.size), hx⟩
              have cE : ∀ w, Rst gr A5 c5 lb sF w → Below W.heap.size W w → w.heap[bf]? = some (.cells #[.int .i64 (sF.why : Int), .int .i64 (sF.fat : Int)] 43 (0, 0)) → Calls Try.prog 17 #[.pointer (some ⟨gr, 0, none⟩)] w fun e W' => e = .returned (.agg #[.int .i64 (sF.why : Int), .int .i64 (sF.fat : Int)]) ∧ (W'.cell? ⟨bf, 0, none⟩ = some (.int .i64 (sF.why : Int)) ∧ W'.cell? ⟨bf, 1, none⟩ = some (.int .i64 (sF.fat : Int))) ∧ Rst gr A5 c5 lb sF W' ∧ Below W.heap.size W W' ∧ W'.heap[bf]? = some (.cells #[.int .i64 (sF.why : Int), .int .i64 (sF.fat : Int)] 43 (0, 0)) := by
                intro w h1 h2 h3
                have hc := end_calls gr A5 c5 lb sF w h1
                rw [end_stuck lb sF hne] at hc
                refine hc.mono ?_
                rintro e W' ⟨rfl, hr, hb⟩
                have hx := hb.heap h3 (by omega)
                exact ⟨rfl, hcell W' hx, hr, h2.trans (hb.below hgW h2.size), hx⟩
              have cF : ∀ w, Rst gr A5 c5 lb sF w → Below W.heap.size W w → w.heap[bf]? = some (.cells #[.int .i64 (sF.why : Int), .int .i64 (sF.fat : Int)] 43 (0, 0)) → Calls Try.prog 24 #[.pointer (some ⟨gr, 0, none⟩)] w fun e W' => e = .returned (.agg #[.int .i64 (sF.why : Int), .int .i64 (sF.fat : Int)]) ∧ (W'.cell? ⟨bf, 0, none⟩ = some (.int .i64 (sF.why : Int)) ∧ W'.cell? ⟨bf, 1, none⟩ = some (.int .i64 (sF.fat : Int))) ∧ Rst gr A5 c5 lb sF W' ∧ Below W.heap.size W W' ∧ W'.heap[bf]? = some (.cells #[.int .i64 (sF.why : Int), .int .i64 (sF.fat : Int)] 43 (0, 0)) := by
                intro w h1 h2 h3
                have hc := fault_calls gr A5 c5 lb sF w h1
                refine hc.mono ?_
                rintro e W' ⟨rfl, hb⟩
                have hx := (hb.block _ (Array.getElem?_eq_some_iff.1 h3).1).trans h3
                exact ⟨rfl, hcell W' hx, h1.below hb, h2.trans (hb.mono h2.size), hx⟩
              have HC := Lib.hid (And.intro cN (And.intro cB (And.intro cT (And.intro cX (And.intro cK (And.intro cL (And.intro cE (And.intro cF (And.intro hcell True.intro)))))))))
              have hun : keyV zero8 = .agg #[.int .u8 0, .int .u8 0, .int .u8 0, .int .u8 0, .int .u8 0, .int .u8 0, .int .u8 0, .int .u8 0] := rfl
              have heq : ∀ w, (Op.equalIn 10000 55 (.agg #[.int .u8 0, .int .u8 0, .int .u8 0, .int .u8 0, .int .u8 0, .int .u8 0, .int .u8 0, .int .u8 0]) (.agg #[.int .u8 0, .int .u8 0, .int .u8 0, .int .u8 0, .int .u8 0, .int .u8 0, .int .u8 0, .int .u8 0])).run Try.prog w = .ok true w := fun w => by
                have := run_keys_eq w zero8 zero8 rfl rfl
                rw [decide_eq_true rfl] at this
                exact this
              have htx : txt [] = { data := #[] } := rfl
              have hno : ((sF.why : Int) == 0) = false ∨ (((sF.why : Int) == 0) = true ∧ ((sF.fat : Int) == 0) = false) := by
                by_cases h : sF.why = 0
                · right; exact ⟨by rw [beq_iff_eq]; omega, by rw [beq_eq_false_iff_ne]; intro h2; exact hne ⟨h, by omega⟩⟩
                · left; rw [beq_eq_false_iff_ne]; omega
              clear cN cB cT cX cK cL cE cF hcell hlend hne
              rcases hno with w0 | ⟨w0, w1'⟩
              · go_wp2_with fail
                generalize w5b.alloc (.cells #[.int .i64 (sF.why : Int), .int .i64 (sF.fat : Int)] 43) = w6 at H6 ⊢
                rw [← hbfe]
                clear hbfe
                refine (G.out.2.2.2 w6).mono ?_
                rintro e w7 ⟨rfl, rfl⟩
                go_wp2_with fail
                go_loopw [53] (fun i wr => ∃ k : Nat, k ≤ q2.length ∧ i = .int .i64 (k : Int) ∧ Rst gr A5 c5 lb sF wr ∧ Below W.heap.size W wr ∧ wr.heap[bf]? = some (.cells #[.int .i64 (sF.why : Int), .int .i64 (sF.fat : Int)] 43 (0, 0))) (fun i _ => q2.length - (intOf i).toNat)
                case atStart => exact ⟨0, by omega, rfl, H6.out.1, H6.out.2.1, H6.out.2.2⟩
                case round =>
                  obtain ⟨k, hk, rfl, hR, hB, hX⟩ := hrel
                  by_cases hlt : k < q2.length
                  · obtain ⟨t0, t1⟩ := HC.out.2.2.2.2.2.2.2.2.1 wr hX
                    have HZ := Lib.hid (show Rst gr A5 c5 lb sF wr.drew ∧ Below W.heap.size W wr.drew ∧ wr.drew.heap[bf]? = some (.cells #[.int .i64 (sF.why : Int), .int .i64 (sF.fat : Int)] 43 (0, 0)) from ⟨hR.drew, hB.drew, hX⟩)
                    clear hR hB hX
                    go_wp2_with fail
                    go_region_held3 (fun W' => (W'.cell? ⟨bf, 0, none⟩ = some (.int .i64 (sF.why : Int)) ∧ W'.cell? ⟨bf, 1, none⟩ = some (.int .i64 (sF.fat : Int)))) (first | exact ⟨t0, t1⟩ | exact s8 | exact s7 | exact s6 | exact s5 | exact s4 | exact s3 | exact s2 | exact s1) (first | (go_at_call 19; ((with_reducible refine (HC.out.1 _ HZ.out.1 HZ.out.2.1 HZ.out.2.2).mono ?_); rintro e w' ⟨rfl, s1, r1, b1, x1⟩)) | (go_at_call 20; ((with_reducible refine (HC.out.2.1 _ r1 b1 x1).mono ?_); rintro e w' ⟨rfl, s2, r2, b2, x2⟩)) | (go_at_call 21; ((with_reducible refine (HC.out.2.2.1 _ r2 b2 x2).mono ?_); rintro e w' ⟨rfl, s3, r3, b3, x3⟩)) | (go_at_call 22; ((with_reducible refine (HC.out.2.2.2.1 _ r3 b3 x3).mono ?_); rintro e w' ⟨rfl, s4, r4, b4, x4⟩)) | (go_at_call 23; ((with_reducible refine (HC.out.2.2.2.2.1 _ r4 b4 x4).mono ?_); rintro e w' ⟨rfl, s5, r5, b5, x5⟩)) | (go_at_call 18; ((with_reducible refine (HC.out.2.2.2.2.2.1 _ r5 b5 x5).mono ?_); rintro e w' ⟨rfl, s6, r6, b6, x6⟩)) | (go_at_call 17; ((with_reducible refine (HC.out.2.2.2.2.2.2.1 _ r6 b6 x6).mono ?_); rintro e w' ⟨rfl, s7, r7, b7, x7⟩)) | (go_at_call 24; ((with_reducible refine (HC.out.2.2.2.2.2.2.2.1 _ r7 b7 x7).mono ?_); rintro e w' ⟨rfl, s8, r8, b8, x8⟩)))
                    have H9 := Lib.hid (And.intro r8 (And.intro b8 x8))
                    clear s1 s2 s3 s4 s5 s6 s7 s8 r1 r2 r3 r4 r5 r6 r7 r8 b1 b2 b3 b4 b5 b6 b7 b8 x1 x2 x3 x4 x5 x6 x7 x8 t0 t1 HZ
                    go_wp2_with fail
                    go_roundw
                    case rel => exact ⟨k + 1, by omega, by go_num, H9.out.1, H9.out.2.1, H9.out.2.2⟩
                    case measure => (first | (simp [intOf]; done) | (simp [intOf]; omega))
                  · obtain rfl : k = q2.length := by omega
                    have HZ := Lib.hid (And.intro hR hB)
                    clear hR hB hX
                    go_wp2_with fail
                    refine (alive_calls wr).mono ?_
                    rintro e wE ⟨rfl, hbE⟩
                    go_wp2_with fail
                    go_ret
                    exact ⟨rfl, (HZ.out.2).trans (hbE.mono (HZ.out.2).size)⟩
              · go_wp2_with fail
                generalize w5b.alloc (.cells #[.int .i64 (sF.why : Int), .int .i64 (sF.fat : Int)] 43) = w6 at H6 ⊢
                rw [← hbfe]
                clear hbfe
                refine (G.out.2.2.2 w6).mono ?_
                rintro e w7 ⟨rfl, rfl⟩
                go_wp2_with fail
                go_loopw [53] (fun i wr => ∃ k : Nat, k ≤ q2.length ∧ i = .int .i64 (k : Int) ∧ Rst gr A5 c5 lb sF wr ∧ Below W.heap.size W wr ∧ wr.heap[bf]? = some (.cells #[.int .i64 (sF.why : Int), .int .i64 (sF.fat : Int)] 43 (0, 0))) (fun i _ => q2.length - (intOf i).toNat)
                case atStart => exact ⟨0, by omega, rfl, H6.out.1, H6.out.2.1, H6.out.2.2⟩
                case round =>
                  obtain ⟨k, hk, rfl, hR, hB, hX⟩ := hrel
                  by_cases hlt : k < q2.length
                  · obtain ⟨t0, t1⟩ := HC.out.2.2.2.2.2.2.2.2.1 wr hX
                    have HZ := Lib.hid (show Rst gr A5 c5 lb sF wr.drew ∧ Below W.heap.size W wr.drew ∧ wr.drew.heap[bf]? = some (.cells #[.int .i64 (sF.why : Int), .int .i64 (sF.fat : Int)] 43 (0, 0)) from ⟨hR.drew, hB.drew, hX⟩)
                    clear hR hB hX
                    go_wp2_with fail
                    go_region_held3 (fun W' => (W'.cell? ⟨bf, 0, none⟩ = some (.int .i64 (sF.why : Int)) ∧ W'.cell? ⟨bf, 1, none⟩ = some (.int .i64 (sF.fat : Int)))) (first | exact ⟨t0, t1⟩ | exact s8 | exact s7 | exact s6 | exact s5 | exact s4 | exact s3 | exact s2 | exact s1) (first | (go_at_call 19; ((with_reducible refine (HC.out.1 _ HZ.out.1 HZ.out.2.1 HZ.out.2.2).mono ?_); rintro e w' ⟨rfl, s1, r1, b1, x1⟩)) | (go_at_call 20; ((with_reducible refine (HC.out.2.1 _ r1 b1 x1).mono ?_); rintro e w' ⟨rfl, s2, r2, b2, x2⟩)) | (go_at_call 21; ((with_reducible refine (HC.out.2.2.1 _ r2 b2 x2).mono ?_); rintro e w' ⟨rfl, s3, r3, b3, x3⟩)) | (go_at_call 22; ((with_reducible refine (HC.out.2.2.2.1 _ r3 b3 x3).mono ?_); rintro e w' ⟨rfl, s4, r4, b4, x4⟩)) | (go_at_call 23; ((with_reducible refine (HC.out.2.2.2.2.1 _ r4 b4 x4).mono ?_); rintro e w' ⟨rfl, s5, r5, b5, x5⟩)) | (go_at_call 18; ((with_reducible refine (HC.out.2.2.2.2.2.1 _ r5 b5 x5).mono ?_); rintro e w' ⟨rfl, s6, r6, b6, x6⟩)) | (go_at_call 17; ((with_reducible refine (HC.out.2.2.2.2.2.2.1 _ r6 b6 x6).mono ?_); rintro e w' ⟨rfl, s7, r7, b7, x7⟩)) | (go_at_call 24; ((with_reducible refine (HC.out.2.2.2.2.2.2.2.1 _ r7 b7 x7).mono ?_); rintro e w' ⟨rfl, s8, r8, b8, x8⟩)))
                    have H9 := Lib.hid (And.intro r8 (And.intro b8 x8))
                    clear s1 s2 s3 s4 s5 s6 s7 s8 r1 r2 r3 r4 r5 r6 r7 r8 b1 b2 b3 b4 b5 b6 b7 b8 x1 x2 x3 x4 x5 x6 x7 x8 t0 t1 HZ
                    go_wp2_with fail
                    go_roundw
                    case rel => exact ⟨k + 1, by omega, by go_num, H9.out.1, H9.out.2.1, H9.out.2.2⟩
                    case measure => (first | (simp [intOf]; done) | (simp [intOf]; omega))
                  · obtain rfl : k = q2.length := by omega
                    have HZ := Lib.hid (And.intro hR hB)
                    clear hR hB hX
                    go_wp2_with fail
                    refine (alive_calls wr).mono ?_
                    rintro e wE ⟨rfl, hbE⟩
                    go_wp2_with fail
                    go_ret
                    exact ⟨rfl, (HZ.out.2).trans (hbE.mono (HZ.out.2).size)⟩
end Go.Proofs.Ytinilglljjffjaa.Cd
