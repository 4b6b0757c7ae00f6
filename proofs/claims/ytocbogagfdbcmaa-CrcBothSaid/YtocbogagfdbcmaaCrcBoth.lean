/- The walk of a law of crc: the sum of two texts out of theirs; zeros behind, however many. -/
import Derived.Test.YtocbogagfdbcmaaCrcBothR
namespace Go.Proofs.Ytocbogagfdbcmaa.Crc
set_option linter.unusedVariables false
set_option linter.unusedSimpArgs false
open Go.RowKit
open Go.Proofs.Ytocbogagfdbcmaa.Rel
set_option maxHeartbeats 8000000 in
set_option maxRecDepth 100000 in
theorem CrcBoth_walk (a : Option Addr) (c : Nat) (l : List UInt8) (a' : Option Addr) (c' : Nat) (l' : List UInt8) (n m : Nat) (w : World) (hr : Row8 w a l) (hr' : Row8 w a' l') (hn : n < 4294967296) (hm : m < 4294967296) :
    Calls Try.prog 6 #[.slice a l.length c, .slice a' l'.length c', .agg #[.int .u32 (n : Int), .int .u32 (m : Int)]] w fun e w' => e = .returned (.bool true) ∧ Below w.heap.size w w' := by
  have HN := Lib.hid (And.intro hn hm)
  clear hn hm
  by_cases h0 : 5000 < l.length
  · have d0 : decide (5000 < l.length) = true := decide_eq_true h0
    clear h0
    go_enter Try.func6, Try.ntmps6
    go_wp2_with fail
    go_quiet (fail)
    go_wp2_with (first | (go_at_call 9; ((with_reducible refine (long_calls _ _ _ _).mono ?_); rintro e w' ⟨rfl, rfl⟩)) | (go_at_call 10; ((with_reducible refine (alive_calls _).mono ?_); rintro e w' ⟨rfl, hb⟩)))
    go_ret
    exact ⟨rfl, (show Below w.heap.size w _ from (by repeat (first | exact Below.refl _ _ | assumption | apply Below.drew | apply below_drewN | (refine Below.alloc ?_ (by first | (simp; done) | omega | (simp; omega)) _)))).trans (hb.mono (by simp))⟩
  · have d0 : decide (5000 < l.length) = false := decide_eq_false h0
    by_cases h1 : 5000 < l'.length
    · have d1 : decide (5000 < l'.length) = true := decide_eq_true h1
      clear h0 h1
      go_enter Try.func6, Try.ntmps6
      go_wp2_with fail
      go_quiet (fail)
      go_wp2_with (first | (go_at_call 9; ((with_reducible refine (long_calls _ _ _ _).mono ?_); rintro e w' ⟨rfl, rfl⟩)) | (go_at_call 10; ((with_reducible refine (alive_calls _).mono ?_); rintro e w' ⟨rfl, hb⟩)))
      go_ret
      exact ⟨rfl, (show Below w.heap.size w _ from (by repeat (first | exact Below.refl _ _ | assumption | apply Below.drew | apply below_drewN | (refine Below.alloc ?_ (by first | (simp; done) | omega | (simp; omega)) _)))).trans (hb.mono (by simp))⟩
    · have d1 : decide (5000 < l'.length) = false := decide_eq_false h1
      have G := Lib.hid (And.intro hr (And.intro hr' (And.intro h0 h1)))
      clear hr hr' h0 h1
      go_enter Try.func6, Try.ntmps6
      go_wp2_with fail
      go_quiet (fail)
      go_wp2_with (first | (go_at_call 9; ((with_reducible refine (long_calls _ _ _ _).mono ?_); rintro e w' ⟨rfl, rfl⟩)))
      have hb0 : Below w.heap.size w ((w.alloc (.cells #[.int .u32 (n : Int), .int .u32 (m : Int)] 33)).drewN nq) := (by repeat (first | exact Below.refl _ _ | assumption | apply Below.drew | apply below_drewN | (refine Below.alloc ?_ (by first | (simp; done) | omega | (simp; omega)) _)))
      have hz0 : ((w.alloc (.cells #[.int .u32 (n : Int), .int .u32 (m : Int)] 33)).drewN nq).heap.size = w.heap.size + 1 := by simp
      generalize (w.alloc (.cells #[.int .u32 (n : Int), .int .u32 (m : Int)] 33)).drewN nq = w0 at hb0 hz0 ⊢
      refine (sum1n (w0 := w) _ _ _ _ l rfl G.out.1 (by have := G.out.2.2.1; omega) (by repeat (first | exact Below.refl _ _ | assumption | apply Below.drew | apply below_drewN | (refine Below.alloc ?_ (by first | (simp; done) | omega | (simp; omega)) _))) (by repeat (first | exact heap_at (by first | (simp; done) | omega | (simp; omega)) | assumption | (apply hqJ.out) | (apply hqZ.out) | apply heap_behind_drew | apply heap_behind_drewN | apply heap_past))).mono ?_
      rintro e w' ⟨rfl, rfl⟩
      have hb1 : Below w.heap.size w (w0.alloc (.cells #[.slice a l.length c] 22)) := (by repeat (first | exact Below.refl _ _ | assumption | apply Below.drew | apply below_drewN | (refine Below.alloc ?_ (by first | (simp; done) | omega | (simp; omega)) _)))
      clear hb0
      generalize w0.alloc (.cells #[.slice a l.length c] 22) = w1 at hb1 ⊢
      clear hz0
      go_wp2_with fail
      refine (zeros_calls _ n _ HN.out.1).mono ?_
      rintro e w2 ⟨rfl, hb⟩
      have hb2 := hb1.trans (hb.mono hb1.size)
      clear hb hb1
      go_wp2_with fail
      refine (zeros_calls _ m _ HN.out.2).mono ?_
      rintro e w3 ⟨rfl, hb⟩
      have hb3 := hb2.trans (hb.mono hb2.size)
      clear hb hb2
      rw [BitVec.not_not, ← zeros_add]
      go_upto_region 6 with (fail)
      rw [far_sum n m HN.out.1 HN.out.2]
      obtain ⟨f, hf⟩ : ∃ f, f = n + m := ⟨_, rfl⟩
      rw [show n + m = f from hf.symm, show m + n = f from by rw [hf, Nat.add_comm]]
      have HF := Lib.hid hf
      clear hf
      by_cases hlt : f < 4294967296
      · have d2 : decide ((f : Int) < 4294967296) = true := decide_eq_true (by omega)
        have W := Lib.hid (mod_u32_nat f hlt)
        have HL := Lib.hid hlt
        clear hlt
        go_upto_region 8 with (fail)
        have hz3 := hb3.size
        refine (sum1n (w0 := w) _ _ _ _ l rfl G.out.1 (by have := G.out.2.2.1; omega) (by repeat (first | exact Below.refl _ _ | assumption | apply Below.drew | apply below_drewN | (refine Below.alloc ?_ (by first | (simp; done) | omega | (simp; omega)) _))) (by repeat (first | exact heap_at (by first | (simp; done) | omega | (simp; omega)) | assumption | (apply hqJ.out) | (apply hqZ.out) | apply heap_behind_drew | apply heap_behind_drewN | apply heap_past))).mono ?_
        rintro e w' ⟨rfl, rfl⟩
        have hb4 : Below w.heap.size w (w3.alloc (.cells #[.slice a l.length c] 22)) := (by repeat (first | exact Below.refl _ _ | assumption | apply Below.drew | apply below_drewN | (refine Below.alloc ?_ (by first | (simp; done) | omega | (simp; omega)) _)))
        clear hz3
        generalize w3.alloc (.cells #[.slice a l.length c] 22) = w4 at hb4 ⊢
        clear hb3
        go_upto_region 8 with (fail)
        rw [W.out]
        refine (zeros_calls _ f _ HL.out).mono ?_
        rintro e w5 ⟨rfl, hb⟩
        have hbW := hb4.trans (hb.mono hb4.size)
        clear hb hb4
        go_upto_region 9 with (fail)
        obtain ⟨k, hk⟩ : ∃ k, k = n % 3000 := ⟨_, rfl⟩
        rw [show (n : Int) % 3000 = (k : Int) from by rw [hk]; omega]
        have hk2 : k < 3000 := by rw [hk]; omega
        have K := Lib.hid hk2
        clear hk hk2
        have gl : l.length ≤ 9223372036854775807 := by have := G.out.2.2.1; omega
        have gl' : l'.length ≤ 9223372036854775807 := by have := G.out.2.2.2; omega
        refine wp_lit _ ?_ rfl
        refine wp_region_rel (by kernel_rfl) (I9 w a c l a' c' l' k) (by kernel_rfl) ?_ ?_ ?_
        · exact ⟨_, rfl, rfl, rfl, rfl, hbW.drew, rfl, fun j hj => (rep_false hj).elim⟩
        · intro listed x w5 hI i o ho hdep
          obtain ⟨t, rfl, h0, h1, h11, hb, hls, hrel⟩ := hI
          have hi : i < 32 := (Array.getElem?_eq_some_iff.1 ho).1
          rcases lt32 hi with rfl | rfl | rfl | rfl | rfl | rfl | rfl | rfl | rfl | rfl | rfl | rfl | rfl | rfl | rfl | rfl | rfl | rfl | rfl | rfl | rfl | rfl | rfl | rfl | rfl | rfl | rfl | rfl | rfl | rfl | rfl | rfl
          · have eo := Option.some.inj (ho.symm.trans (by rw [List.getElem?_toArray]; rfl))
            subst eo
            clear ho hdep hi
            refine wpOp_step (by rw [List.getElem?_toArray]; rfl) (fun K' hK => ?_)
            have HK := Lib.hid hK
            have HR := Lib.hid hrel
            clear hK hrel
            unfold act80
            go_simp
            exact HK.out _ _ (step9 h0 h1 h11 hb hls HR.out 0 (by decide) (.slice a l.length c) _ w5 (by simp [act80, upd, slot9, h0, h1, h11]) (Below.refl _ _) (rfl))
          · have eo := Option.some.inj (ho.symm.trans (by rw [List.getElem?_toArray]; rfl))
            subst eo
            have d0 := dep_of (md := .any) 0 hdep (by kernel_rfl)
            have e0 : t 49 = .slice a l.length c := hrel 0 d0
            clear ho hdep hi
            refine wpOp_step (by rw [List.getElem?_toArray]; rfl) (fun K' hK => ?_)
            have HK := Lib.hid hK
            have HR := Lib.hid hrel
            clear hK hrel
            unfold act80
            go_simp
            exact HK.out _ _ (step9 h0 h1 h11 hb hls HR.out 1 (by decide) (.slice (some ⟨w5.heap.size, 0, none⟩) 1 1) _ _ (by simp [act80, upd, slot9, h0, h1, h11, e0]) (below_alloc1 _ _) (⟨_, rfl, heap_alloc_new _ _⟩))
          · have eo := Option.some.inj (ho.symm.trans (by rw [List.getElem?_toArray]; rfl))
            subst eo
            have d1 := dep_of (md := .any) 1 hdep (by kernel_rfl)
            obtain ⟨g1, e1, m1⟩ : ∃ g : Nat, t 50 = .slice (some ⟨g, 0, none⟩) 1 1 ∧ w5.heap[g]? = some (.cells #[.slice a l.length c] 22 (0, 0)) := hrel 1 d1
            clear ho hdep hi
            refine wpOp_step (by rw [List.getElem?_toArray]; rfl) (fun K' hK => ?_)
            have HK := Lib.hid hK
            have HR := Lib.hid hrel
            clear hK hrel
            unfold act80
            go_simp
            with_reducible refine (sum1n (w0 := w) _ _ _ _ l rfl G.out.1 gl hb m1).mono ?_
            rintro e w6 ⟨rfl, rfl⟩
            exact HK.out _ _ (step9 h0 h1 h11 hb hls HR.out 2 (by decide) (.int .u32 (u (more 0#32 l))) _ _ (by simp [act80, upd, slot9, h0, h1, h11, e1]) (Below.refl _ _) (rfl))
          · have eo := Option.some.inj (ho.symm.trans (by rw [List.getElem?_toArray]; rfl))
            subst eo
            clear ho hdep hi
            refine wpOp_step (by rw [List.getElem?_toArray]; rfl) (fun K' hK => ?_)
            have HK := Lib.hid hK
            have HR := Lib.hid hrel
            clear hK hrel
            unfold act80
            go_simp
            exact HK.out _ _ (step9 h0 h1 h11 hb hls HR.out 3 (by decide) (.slice a' l'.length c') _ w5 (by simp [act80, upd, slot9, h0, h1, h11]) (Below.refl _ _) (rfl))
          · have eo := Option.some.inj (ho.symm.trans (by rw [List.getElem?_toArray]; rfl))
            subst eo
            have d3 := dep_of (md := .any) 3 hdep (by kernel_rfl)
            have e3 : t 52 = .slice a' l'.length c' := hrel 3 d3
            clear ho hdep hi
            refine wpOp_step (by rw [List.getElem?_toArray]; rfl) (fun K' hK => ?_)
            have HK := Lib.hid hK
            have HR := Lib.hid hrel
            clear hK hrel
            unfold act80
            go_simp
            exact HK.out _ _ (step9 h0 h1 h11 hb hls HR.out 4 (by decide) (.slice (some ⟨w5.heap.size, 0, none⟩) 1 1) _ _ (by simp [act80, upd, slot9, h0, h1, h11, e3]) (below_alloc1 _ _) (⟨_, rfl, heap_alloc_new _ _⟩))
          · have eo := Option.some.inj (ho.symm.trans (by rw [List.getElem?_toArray]; rfl))
            subst eo
            have d4 := dep_of (md := .any) 4 hdep (by kernel_rfl)
            obtain ⟨g4, e4, m4⟩ : ∃ g : Nat, t 53 = .slice (some ⟨g, 0, none⟩) 1 1 ∧ w5.heap[g]? = some (.cells #[.slice a' l'.length c'] 22 (0, 0)) := hrel 4 d4
            clear ho hdep hi
            refine wpOp_step (by rw [List.getElem?_toArray]; rfl) (fun K' hK => ?_)
            have HK := Lib.hid hK
            have HR := Lib.hid hrel
            clear hK hrel
            unfold act80
            go_simp
            with_reducible refine (sum1n (w0 := w) _ _ _ _ l' rfl G.out.2.1 gl' hb m4).mono ?_
            rintro e w6 ⟨rfl, rfl⟩
            exact HK.out _ _ (step9 h0 h1 h11 hb hls HR.out 5 (by decide) (.int .u32 (u (more 0#32 l'))) _ _ (by simp [act80, upd, slot9, h0, h1, h11, e4]) (Below.refl _ _) (rfl))
          · have eo := Option.some.inj (ho.symm.trans (by rw [List.getElem?_toArray]; rfl))
            subst eo
            clear ho hdep hi
            refine wpOp_step (by rw [List.getElem?_toArray]; rfl) (fun K' hK => ?_)
            have HK := Lib.hid hK
            have HR := Lib.hid hrel
            clear hK hrel
            unfold act80
            go_simp
            exact HK.out _ _ (step9 h0 h1 h11 hb hls HR.out 6 (by decide) (.slice a' l'.length c') _ w5 (by simp [act80, upd, slot9, h0, h1, h11]) (Below.refl _ _) (rfl))
          · have eo := Option.some.inj (ho.symm.trans (by rw [List.getElem?_toArray]; rfl))
            subst eo
            have d6 := dep_of (md := .any) 6 hdep (by kernel_rfl)
            have e6 : t 55 = .slice a' l'.length c' := hrel 6 d6
            clear ho hdep hi
            refine wpOp_step (by rw [List.getElem?_toArray]; rfl) (fun K' hK => ?_)
            have HK := Lib.hid hK
            have HR := Lib.hid hrel
            clear hK hrel
            unfold act80
            go_simp
            exact HK.out _ _ (step9 h0 h1 h11 hb hls HR.out 7 (by decide) (.int .i64 (l'.length : Int)) _ w5 (by simp [act80, upd, slot9, h0, h1, h11, e6]) (Below.refl _ _) (rfl))
          · have eo := Option.some.inj (ho.symm.trans (by rw [List.getElem?_toArray]; rfl))
            subst eo
            have d7 := dep_of (md := .any) 7 hdep (by kernel_rfl)
            have e7 : t 56 = .int .i64 (l'.length : Int) := hrel 7 d7
            clear ho hdep hi
            refine wpOp_step (by rw [List.getElem?_toArray]; rfl) (fun K' hK => ?_)
            have HK := Lib.hid hK
            have HR := Lib.hid hrel
            clear hK hrel
            unfold act80
            have ML : (l'.length : Int) % 4294967296 = (l'.length : Int) := by have := G.out.2.2.2; omega
            have ML2 := wrap_u32_nat l'.length (by have := G.out.2.2.2; omega)
            go_simp
            exact HK.out _ _ (step9 h0 h1 h11 hb hls HR.out 8 (by decide) (.int .u32 (l'.length : Int)) _ w5 (by simp [act80, upd, slot9, h0, h1, h11, e7]) (Below.refl _ _) (rfl))
          · have eo := Option.some.inj (ho.symm.trans (by rw [List.getElem?_toArray]; rfl))
            subst eo
            have d2 := dep_of (md := .any) 2 hdep (by kernel_rfl)
            have d5 := dep_of (md := .any) 5 hdep (by kernel_rfl)
            have d8 := dep_of (md := .any) 8 hdep (by kernel_rfl)
            have e2 : t 51 = .int .u32 (u (more 0#32 l)) := hrel 2 d2
            have e5 : t 54 = .int .u32 (u (more 0#32 l')) := hrel 5 d5
            have e8 : t 57 = .int .u32 (l'.length : Int) := hrel 8 d8
            clear ho hdep hi
            refine wpOp_step (by rw [List.getElem?_toArray]; rfl) (fun K' hK => ?_)
            have HK := Lib.hid hK
            have HR := Lib.hid hrel
            clear hK hrel
            unfold act80
            go_simp
            with_reducible refine (join_calls _ _ _ _ (by have := G.out.2.2.2; omega)).mono ?_
            rintro e w6 ⟨rfl, hbJ⟩
            rw [join_more]
            exact HK.out _ _ (step9 h0 h1 h11 hb hls HR.out 9 (by decide) (.int .u32 (u (more 0#32 (l ++ l')))) _ w6 (by simp [act80, upd, slot9, h0, h1, h11, e2, e5, e8]) (hbJ) (rfl))
          · have eo := Option.some.inj (ho.symm.trans (by rw [List.getElem?_toArray]; rfl))
            subst eo
            clear ho hdep hi
            refine wpOp_step (by rw [List.getElem?_toArray]; rfl) (fun K' hK => ?_)
            have HK := Lib.hid hK
            have HR := Lib.hid hrel
            clear hK hrel
            unfold act80
            go_simp
            exact HK.out _ _ (step9 h0 h1 h11 hb hls HR.out 10 (by decide) (.slice a l.length c) _ w5 (by simp [act80, upd, slot9, h0, h1, h11]) (Below.refl _ _) (rfl))
          · have eo := Option.some.inj (ho.symm.trans (by rw [List.getElem?_toArray]; rfl))
            subst eo
            clear ho hdep hi
            refine wpOp_step (by rw [List.getElem?_toArray]; rfl) (fun K' hK => ?_)
            have HK := Lib.hid hK
            have HR := Lib.hid hrel
            clear hK hrel
            unfold act80
            go_simp
            exact HK.out _ _ (step9 h0 h1 h11 hb hls HR.out 11 (by decide) (.slice a' l'.length c') _ w5 (by simp [act80, upd, slot9, h0, h1, h11]) (Below.refl _ _) (rfl))
          · have eo := Option.some.inj (ho.symm.trans (by rw [List.getElem?_toArray]; rfl))
            subst eo
            have d10 := dep_of (md := .any) 10 hdep (by kernel_rfl)
            have d11 := dep_of (md := .any) 11 hdep (by kernel_rfl)
            have e10 : t 59 = .slice a l.length c := hrel 10 d10
            have e11 : t 60 = .slice a' l'.length c' := hrel 11 d11
            clear ho hdep hi
            refine wpOp_step (by rw [List.getElem?_toArray]; rfl) (fun K' hK => ?_)
            have HK := Lib.hid hK
            have HR := Lib.hid hrel
            clear hK hrel
            unfold act80
            go_simp
            exact HK.out _ _ (step9 h0 h1 h11 hb hls HR.out 12 (by decide) (.slice (some ⟨w5.heap.size, 0, none⟩) 2 2) _ _ (by simp [act80, upd, slot9, h0, h1, h11, e10, e11]) (below_alloc1 _ _) (⟨_, rfl, heap_alloc_new _ _⟩))
          · have eo := Option.some.inj (ho.symm.trans (by rw [List.getElem?_toArray]; rfl))
            subst eo
            have d12 := dep_of (md := .any) 12 hdep (by kernel_rfl)
            obtain ⟨g12, e12, m12⟩ : ∃ g : Nat, t 61 = .slice (some ⟨g, 0, none⟩) 2 2 ∧ w5.heap[g]? = some (.cells #[.slice a l.length c, .slice a' l'.length c'] 22 (0, 0)) := hrel 12 d12
            clear ho hdep hi
            refine wpOp_step (by rw [List.getElem?_toArray]; rfl) (fun K' hK => ?_)
            have HK := Lib.hid hK
            have HR := Lib.hid hrel
            clear hK hrel
            unfold act80
            go_simp
            with_reducible refine (sum2 (w0 := w) _ _ _ _ _ l l' G.out.1 G.out.2.1 gl gl' hb m12).mono ?_
            rintro e w6 ⟨rfl, rfl⟩
            exact HK.out _ _ (step9 h0 h1 h11 hb hls HR.out 13 (by decide) (.int .u32 (u (more 0#32 (l ++ l')))) _ _ (by simp [act80, upd, slot9, h0, h1, h11, e12]) (Below.refl _ _) (rfl))
          · have eo := Option.some.inj (ho.symm.trans (by rw [List.getElem?_toArray]; rfl))
            subst eo
            have d9 := dep_of (md := .any) 9 hdep (by kernel_rfl)
            have d13 := dep_of (md := .any) 13 hdep (by kernel_rfl)
            have e9 : t 58 = .int .u32 (u (more 0#32 (l ++ l'))) := hrel 9 d9
            have e13 : t 62 = .int .u32 (u (more 0#32 (l ++ l'))) := hrel 13 d13
            clear ho hdep hi
            refine wpOp_step (by rw [List.getElem?_toArray]; rfl) (fun K' hK => ?_)
            have HK := Lib.hid hK
            have HR := Lib.hid hrel
            clear hK hrel
            unfold act80
            go_simp
            exact HK.out _ _ (step9 h0 h1 h11 hb hls HR.out 14 (by decide) (.bool true) _ w5 (by simp [act80, upd, slot9, h0, h1, h11, e9, e13]) (Below.refl _ _) (rfl))
          · have eo := Option.some.inj (ho.symm.trans (by rw [List.getElem?_toArray]; rfl))
            subst eo
            have d14 := dep_of (md := .any) 14 hdep (by kernel_rfl)
            have e14 : t 63 = .bool true := hrel 14 d14
            clear ho hdep hi
            refine wpOp_step (by rw [List.getElem?_toArray]; rfl) (fun K' hK => ?_)
            have HK := Lib.hid hK
            have HR := Lib.hid hrel
            clear hK hrel
            unfold act80
            go_simp
            exact HK.out _ _ (step9 h0 h1 h11 hb hls HR.out 15 (by decide) (.bool true) _ w5 (by simp [act80, upd, slot9, h0, h1, h11, e14]) (Below.refl _ _) (rfl))
          · have eo := Option.some.inj (ho.symm.trans (by rw [List.getElem?_toArray]; rfl))
            subst eo
            have d15 := dep_of (md := .any) 15 hdep (by kernel_rfl)
            have e15 : t 64 = .bool true := hrel 15 d15
            clear ho hdep hi
            refine wpOp_step (by rw [List.getElem?_toArray]; rfl) (fun K' hK => ?_)
            have HK := Lib.hid hK
            have HR := Lib.hid hrel
            clear hK hrel
            unfold act80
            go_simp
            exact HK.out _ _ (step9 h0 h1 h11 hb hls HR.out 16 (by decide) (.slice a l.length c) _ w5 (by simp [act80, upd, slot9, h0, h1, h11, e15]) (Below.refl _ _) (rfl))
          · have eo := Option.some.inj (ho.symm.trans (by rw [List.getElem?_toArray]; rfl))
            subst eo
            have d15 := dep_of (md := .any) 15 hdep (by kernel_rfl)
            have d16 := dep_of (md := .any) 16 hdep (by kernel_rfl)
            have e15 : t 64 = .bool true := hrel 15 d15
            have e16 : t 65 = .slice a l.length c := hrel 16 d16
            clear ho hdep hi
            refine wpOp_step (by rw [List.getElem?_toArray]; rfl) (fun K' hK => ?_)
            have HK := Lib.hid hK
            have HR := Lib.hid hrel
            clear hK hrel
            unfold act80
            go_simp
            exact HK.out _ _ (step9 h0 h1 h11 hb hls HR.out 17 (by decide) (.slice (some ⟨w5.heap.size, 0, none⟩) 1 1) _ _ (by simp [act80, upd, slot9, h0, h1, h11, e15, e16]) (below_alloc1 _ _) (⟨_, rfl, heap_alloc_new _ _⟩))
          · have eo := Option.some.inj (ho.symm.trans (by rw [List.getElem?_toArray]; rfl))
            subst eo
            have d15 := dep_of (md := .any) 15 hdep (by kernel_rfl)
            have d17 := dep_of (md := .any) 17 hdep (by kernel_rfl)
            have e15 : t 64 = .bool true := hrel 15 d15
            obtain ⟨g17, e17, m17⟩ : ∃ g : Nat, t 66 = .slice (some ⟨g, 0, none⟩) 1 1 ∧ w5.heap[g]? = some (.cells #[.slice a l.length c] 22 (0, 0)) := hrel 17 d17
            clear ho hdep hi
            refine wpOp_step (by rw [List.getElem?_toArray]; rfl) (fun K' hK => ?_)
            have HK := Lib.hid hK
            have HR := Lib.hid hrel
            clear hK hrel
            unfold act80
            go_simp
            with_reducible refine (sum1n (w0 := w) _ _ _ _ l rfl G.out.1 gl hb m17).mono ?_
            rintro e w6 ⟨rfl, rfl⟩
            exact HK.out _ _ (step9 h0 h1 h11 hb hls HR.out 18 (by decide) (.int .u32 (u (more 0#32 l))) _ _ (by simp [act80, upd, slot9, h0, h1, h11, e15, e17]) (Below.refl _ _) (rfl))
          · have eo := Option.some.inj (ho.symm.trans (by rw [List.getElem?_toArray]; rfl))
            subst eo
            have d15 := dep_of (md := .any) 15 hdep (by kernel_rfl)
            have e15 : t 64 = .bool true := hrel 15 d15
            clear ho hdep hi
            refine wpOp_step (by rw [List.getElem?_toArray]; rfl) (fun K' hK => ?_)
            have HK := Lib.hid hK
            have HR := Lib.hid hrel
            clear hK hrel
            unfold act80
            go_simp
            exact HK.out _ _ (step9 h0 h1 h11 hb hls HR.out 19 (by decide) (.int .u32 (k : Int)) _ w5 (by simp [act80, upd, slot9, h0, h1, h11, e15]) (Below.refl _ _) (rfl))
          · have eo := Option.some.inj (ho.symm.trans (by rw [List.getElem?_toArray]; rfl))
            subst eo
            have d15 := dep_of (md := .any) 15 hdep (by kernel_rfl)
            have d18 := dep_of (md := .any) 18 hdep (by kernel_rfl)
            have d19 := dep_of (md := .any) 19 hdep (by kernel_rfl)
            have e15 : t 64 = .bool true := hrel 15 d15
            have e18 : t 67 = .int .u32 (u (more 0#32 l)) := hrel 18 d18
            have e19 : t 68 = .int .u32 (k : Int) := hrel 19 d19
            clear ho hdep hi
            refine wpOp_step (by rw [List.getElem?_toArray]; rfl) (fun K' hK => ?_)
            have HK := Lib.hid hK
            have HR := Lib.hid hrel
            clear hK hrel
            unfold act80
            go_simp
            with_reducible refine (zeros_calls _ k _ (by have := K.out; omega)).mono ?_
            rintro e w6 ⟨rfl, hbZ⟩
            rw [zeros_more]
            exact HK.out _ _ (step9 h0 h1 h11 hb hls HR.out 20 (by decide) (.int .u32 (u (more 0#32 (l ++ List.replicate k 0)))) _ w6 (by simp [act80, upd, slot9, h0, h1, h11, e15, e18, e19]) (hbZ) (rfl))
          · have eo := Option.some.inj (ho.symm.trans (by rw [List.getElem?_toArray]; rfl))
            subst eo
            have d15 := dep_of (md := .any) 15 hdep (by kernel_rfl)
            have e15 : t 64 = .bool true := hrel 15 d15
            clear ho hdep hi
            refine wpOp_step (by rw [List.getElem?_toArray]; rfl) (fun K' hK => ?_)
            have HK := Lib.hid hK
            have HR := Lib.hid hrel
            clear hK hrel
            unfold act80
            go_simp
            exact HK.out _ _ (step9 h0 h1 h11 hb hls HR.out 21 (by decide) (.slice a l.length c) _ w5 (by simp [act80, upd, slot9, h0, h1, h11, e15]) (Below.refl _ _) (rfl))
          · have eo := Option.some.inj (ho.symm.trans (by rw [List.getElem?_toArray]; rfl))
            subst eo
            have d15 := dep_of (md := .any) 15 hdep (by kernel_rfl)
            have e15 : t 64 = .bool true := hrel 15 d15
            clear ho hdep hi
            refine wpOp_step (by rw [List.getElem?_toArray]; rfl) (fun K' hK => ?_)
            have HK := Lib.hid hK
            have HR := Lib.hid hrel
            clear hK hrel
            unfold act80
            go_simp
            exact HK.out _ _ (step9 h0 h1 h11 hb hls HR.out 22 (by decide) (.int .u32 (k : Int)) _ w5 (by simp [act80, upd, slot9, h0, h1, h11, e15]) (Below.refl _ _) (rfl))
          · have eo := Option.some.inj (ho.symm.trans (by rw [List.getElem?_toArray]; rfl))
            subst eo
            have d15 := dep_of (md := .any) 15 hdep (by kernel_rfl)
            have d22 := dep_of (md := .any) 22 hdep (by kernel_rfl)
            have e15 : t 64 = .bool true := hrel 15 d15
            have e22 : t 71 = .int .u32 (k : Int) := hrel 22 d22
            clear ho hdep hi
            refine wpOp_step (by rw [List.getElem?_toArray]; rfl) (fun K' hK => ?_)
            have HK := Lib.hid hK
            have HR := Lib.hid hrel
            clear hK hrel
            unfold act80
            have hmk := fun (w : World) => run_make_row' (P := Try.prog) 22 5 (.int .u8 0) 1 Try.underlying22 info8 rfl .u32 .u32 k (by have := K.out; omega) (by have := K.out; omega) w
            go_simp
            exact HK.out _ _ (step9 h0 h1 h11 hb hls HR.out 23 (by decide) (.slice (some ⟨w5.heap.size, 0, none⟩) k k) _ _ (by simp [act80, upd, slot9, h0, h1, h11, e15, e22]) (below_alloc1 _ _) (⟨_, rfl, heap_alloc_new _ _⟩))
          · have eo := Option.some.inj (ho.symm.trans (by rw [List.getElem?_toArray]; rfl))
            subst eo
            have d15 := dep_of (md := .any) 15 hdep (by kernel_rfl)
            have d21 := dep_of (md := .any) 21 hdep (by kernel_rfl)
            have d23 := dep_of (md := .any) 23 hdep (by kernel_rfl)
            have e15 : t 64 = .bool true := hrel 15 d15
            have e21 : t 70 = .slice a l.length c := hrel 21 d21
            obtain ⟨gz, e23, mz⟩ : ∃ gz : Nat, t 72 = .slice (some ⟨gz, 0, none⟩) k k ∧ w5.heap[gz]? = some (.cells (madeCells #[.int .u8 0] k) 5 (0, 0)) := hrel 23 d23
            clear ho hdep hi
            refine wpOp_step (by rw [List.getElem?_toArray]; rfl) (fun K' hK => ?_)
            have HK := Lib.hid hK
            have HR := Lib.hid hrel
            clear hK hrel
            unfold act80
            go_simp
            exact HK.out _ _ (step9 h0 h1 h11 hb hls HR.out 24 (by decide) (.slice (some ⟨w5.heap.size, 0, none⟩) 2 2) _ _ (by simp [act80, upd, slot9, h0, h1, h11, e15, e21, e23]) (below_alloc1 _ _) (⟨_, gz, rfl, heap_alloc_new _ _, heap_past mz⟩))
          · have eo := Option.some.inj (ho.symm.trans (by rw [List.getElem?_toArray]; rfl))
            subst eo
            have d15 := dep_of (md := .any) 15 hdep (by kernel_rfl)
            have d24 := dep_of (md := .any) 24 hdep (by kernel_rfl)
            have e15 : t 64 = .bool true := hrel 15 d15
            obtain ⟨g24, gz, e24, m24, mz⟩ : ∃ g gz : Nat, t 73 = .slice (some ⟨g, 0, none⟩) 2 2 ∧ w5.heap[g]? = some (.cells #[.slice a l.length c, .slice (some ⟨gz, 0, none⟩) k k] 22 (0, 0)) ∧ w5.heap[gz]? = some (.cells (madeCells #[.int .u8 0] k) 5 (0, 0)) := hrel 24 d24
            clear ho hdep hi
            refine wpOp_step (by rw [List.getElem?_toArray]; rfl) (fun K' hK => ?_)
            have HK := Lib.hid hK
            have HR := Lib.hid hrel
            clear hK hrel
            unfold act80
            go_simp
            with_reducible refine (sum2z (w0 := w) _ _ k _ rfl _ _ l G.out.1 gl (by have := K.out; omega) hb mz m24).mono ?_
            rintro e w6 ⟨rfl, rfl⟩
            exact HK.out _ _ (step9 h0 h1 h11 hb hls HR.out 25 (by decide) (.int .u32 (u (more 0#32 (l ++ List.replicate k 0)))) _ _ (by simp [act80, upd, slot9, h0, h1, h11, e15, e24]) (Below.refl _ _) (rfl))
          · have eo := Option.some.inj (ho.symm.trans (by rw [List.getElem?_toArray]; rfl))
            subst eo
            have d15 := dep_of (md := .any) 15 hdep (by kernel_rfl)
            have d20 := dep_of (md := .any) 20 hdep (by kernel_rfl)
            have d25 := dep_of (md := .any) 25 hdep (by kernel_rfl)
            have e15 : t 64 = .bool true := hrel 15 d15
            have e20 : t 69 = .int .u32 (u (more 0#32 (l ++ List.replicate k 0))) := hrel 20 d20
            have e25 : t 74 = .int .u32 (u (more 0#32 (l ++ List.replicate k 0))) := hrel 25 d25
            clear ho hdep hi
            refine wpOp_step (by rw [List.getElem?_toArray]; rfl) (fun K' hK => ?_)
            have HK := Lib.hid hK
            have HR := Lib.hid hrel
            clear hK hrel
            unfold act80
            go_simp
            exact HK.out _ _ (step9 h0 h1 h11 hb hls HR.out 26 (by decide) (.bool true) _ w5 (by simp [act80, upd, slot9, h0, h1, h11, e15, e20, e25]) (Below.refl _ _) (rfl))
          · have eo := Option.some.inj (ho.symm.trans (by rw [List.getElem?_toArray]; rfl))
            subst eo
            have d15 := dep_of (md := .any) 15 hdep (by kernel_rfl)
            have d26 := dep_of (md := .any) 26 hdep (by kernel_rfl)
            have e15 : t 64 = .bool true := hrel 15 d15
            have e26 : t 75 = .bool true := hrel 26 d26
            clear ho hdep hi
            refine wpOp_step (by rw [List.getElem?_toArray]; rfl) (fun K' hK => ?_)
            have HK := Lib.hid hK
            have HR := Lib.hid hrel
            clear hK hrel
            unfold act80
            go_simp
            exact HK.out _ _ (step9 h0 h1 h11 hb hls HR.out 27 (by decide) (.bool true) _ w5 (by simp [act80, upd, slot9, h0, h1, h11, e15, e26]) (Below.refl _ _) (rfl))
          · have eo := Option.some.inj (ho.symm.trans (by rw [List.getElem?_toArray]; rfl))
            subst eo
            have d27 := dep_of (md := .any) 27 hdep (by kernel_rfl)
            have e27 : t 76 = .bool true := hrel 27 d27
            clear ho hdep hi
            refine wpOp_step (by rw [List.getElem?_toArray]; rfl) (fun K' hK => ?_)
            have HK := Lib.hid hK
            have HR := Lib.hid hrel
            clear hK hrel
            unfold act80
            go_simp
            exact HK.out _ _ (step9 h0 h1 h11 hb hls HR.out 28 (by decide) (.bool true) _ w5 (by simp [act80, upd, slot9, h0, h1, h11, e27]) (Below.refl _ _) (rfl))
          · have eo := Option.some.inj (ho.symm.trans (by rw [List.getElem?_toArray]; rfl))
            subst eo
            have d28 := dep_of (md := .any) 28 hdep (by kernel_rfl)
            have e28 : t 77 = .bool true := hrel 28 d28
            clear ho hdep hi
            refine wpOp_step (by rw [List.getElem?_toArray]; rfl) (fun K' hK => ?_)
            have HK := Lib.hid hK
            have HR := Lib.hid hrel
            clear hK hrel
            unfold act80
            go_simp
            with_reducible refine (alive_calls _).mono ?_
            rintro e w6 ⟨rfl, hbA⟩
            exact HK.out _ _ (step9 h0 h1 h11 hb hls HR.out 29 (by decide) (.bool true) _ w6 (by simp [act80, upd, slot9, h0, h1, h11, e28]) (hbA) (rfl))
          · have eo := Option.some.inj (ho.symm.trans (by rw [List.getElem?_toArray]; rfl))
            subst eo
            have d28 := dep_of (md := .any) 28 hdep (by kernel_rfl)
            have d29 := dep_of (md := .any) 29 hdep (by kernel_rfl)
            have e28 : t 77 = .bool true := hrel 28 d28
            have e29 : t 78 = .bool true := hrel 29 d29
            clear ho hdep hi
            refine wpOp_step (by rw [List.getElem?_toArray]; rfl) (fun K' hK => ?_)
            have HK := Lib.hid hK
            have HR := Lib.hid hrel
            clear hK hrel
            unfold act80
            go_simp
            exact HK.out _ _ (step9 h0 h1 h11 hb hls HR.out 30 (by decide) (.bool true) _ w5 (by simp [act80, upd, slot9, h0, h1, h11, e28, e29]) (Below.refl _ _) (rfl))
          · have eo := Option.some.inj (ho.symm.trans (by rw [List.getElem?_toArray]; rfl))
            subst eo
            have d30 := dep_of (md := .any) 30 hdep (by kernel_rfl)
            have e30 : t 79 = .bool true := hrel 30 d30
            clear ho hdep hi
            refine wpOp_step (by rw [List.getElem?_toArray]; rfl) (fun K' hK => ?_)
            have HK := Lib.hid hK
            have HR := Lib.hid hrel
            clear hK hrel
            unfold act80
            go_simp
            exact HK.out _ _ (step9 h0 h1 h11 hb hls HR.out 31 (by decide) (.bool true) _ w5 (by simp [act80, upd, slot9, h0, h1, h11, e30]) (Below.refl _ _) (rfl))
        · intro listed x w5 hI hall
          obtain ⟨t, rfl, h0, h1, h11, hb, hls, hrel⟩ := hI
          have e31 : t 6 = .bool true := hrel 31 (hall 31 (by show 31 < 32; decide))
          have HB := Lib.hid hb
          clear hall hrel hb h0 h1 h11
          unfold act80
          rw [e31]
          go_wp2_with fail
          go_ret
          exact ⟨rfl, HB.out⟩
      · have d2 : decide ((f : Int) < 4294967296) = false := decide_eq_false (by omega)
        have HL := Lib.hid hlt
        clear hlt
        have hbW := hb3
        clear hb3
        go_upto_region 9 with (fail)
        obtain ⟨k, hk⟩ : ∃ k, k = n % 3000 := ⟨_, rfl⟩
        rw [show (n : Int) % 3000 = (k : Int) from by rw [hk]; omega]
        have hk2 : k < 3000 := by rw [hk]; omega
        have K := Lib.hid hk2
        clear hk hk2
        have gl : l.length ≤ 9223372036854775807 := by have := G.out.2.2.1; omega
        have gl' : l'.length ≤ 9223372036854775807 := by have := G.out.2.2.2; omega
        refine wp_lit _ ?_ rfl
        refine wp_region_rel (by kernel_rfl) (I9 w a c l a' c' l' k) (by kernel_rfl) ?_ ?_ ?_
        · exact ⟨_, rfl, rfl, rfl, rfl, hbW.drew, rfl, fun j hj => (rep_false hj).elim⟩
        · intro listed x w5 hI i o ho hdep
          obtain ⟨t, rfl, h0, h1, h11, hb, hls, hrel⟩ := hI
          have hi : i < 32 := (Array.getElem?_eq_some_iff.1 ho).1
          rcases lt32 hi with rfl | rfl | rfl | rfl | rfl | rfl | rfl | rfl | rfl | rfl | rfl | rfl | rfl | rfl | rfl | rfl | rfl | rfl | rfl | rfl | rfl | rfl | rfl | rfl | rfl | rfl | rfl | rfl | rfl | rfl | rfl | rfl
          · have eo := Option.some.inj (ho.symm.trans (by rw [List.getElem?_toArray]; rfl))
            subst eo
            clear ho hdep hi
            refine wpOp_step (by rw [List.getElem?_toArray]; rfl) (fun K' hK => ?_)
            have HK := Lib.hid hK
            have HR := Lib.hid hrel
            clear hK hrel
            unfold act80
            go_simp
            exact HK.out _ _ (step9 h0 h1 h11 hb hls HR.out 0 (by decide) (.slice a l.length c) _ w5 (by simp [act80, upd, slot9, h0, h1, h11]) (Below.refl _ _) (rfl))
          · have eo := Option.some.inj (ho.symm.trans (by rw [List.getElem?_toArray]; rfl))
            subst eo
            have d0 := dep_of (md := .any) 0 hdep (by kernel_rfl)
            have e0 : t 49 = .slice a l.length c := hrel 0 d0
            clear ho hdep hi
            refine wpOp_step (by rw [List.getElem?_toArray]; rfl) (fun K' hK => ?_)
            have HK := Lib.hid hK
            have HR := Lib.hid hrel
            clear hK hrel
            unfold act80
            go_simp
            exact HK.out _ _ (step9 h0 h1 h11 hb hls HR.out 1 (by decide) (.slice (some ⟨w5.heap.size, 0, none⟩) 1 1) _ _ (by simp [act80, upd, slot9, h0, h1, h11, e0]) (below_alloc1 _ _) (⟨_, rfl, heap_alloc_new _ _⟩))
          · have eo := Option.some.inj (ho.symm.trans (by rw [List.getElem?_toArray]; rfl))
            subst eo
            have d1 := dep_of (md := .any) 1 hdep (by kernel_rfl)
            obtain ⟨g1, e1, m1⟩ : ∃ g : Nat, t 50 = .slice (some ⟨g, 0, none⟩) 1 1 ∧ w5.heap[g]? = some (.cells #[.slice a l.length c] 22 (0, 0)) := hrel 1 d1
            clear ho hdep hi
            refine wpOp_step (by rw [List.getElem?_toArray]; rfl) (fun K' hK => ?_)
            have HK := Lib.hid hK
            have HR := Lib.hid hrel
            clear hK hrel
            unfold act80
            go_simp
            with_reducible refine (sum1n (w0 := w) _ _ _ _ l rfl G.out.1 gl hb m1).mono ?_
            rintro e w6 ⟨rfl, rfl⟩
            exact HK.out _ _ (step9 h0 h1 h11 hb hls HR.out 2 (by decide) (.int .u32 (u (more 0#32 l))) _ _ (by simp [act80, upd, slot9, h0, h1, h11, e1]) (Below.refl _ _) (rfl))
          · have eo := Option.some.inj (ho.symm.trans (by rw [List.getElem?_toArray]; rfl))
            subst eo
            clear ho hdep hi
            refine wpOp_step (by rw [List.getElem?_toArray]; rfl) (fun K' hK => ?_)
            have HK := Lib.hid hK
            have HR := Lib.hid hrel
            clear hK hrel
            unfold act80
            go_simp
            exact HK.out _ _ (step9 h0 h1 h11 hb hls HR.out 3 (by decide) (.slice a' l'.length c') _ w5 (by simp [act80, upd, slot9, h0, h1, h11]) (Below.refl _ _) (rfl))
          · have eo := Option.some.inj (ho.symm.trans (by rw [List.getElem?_toArray]; rfl))
            subst eo
            have d3 := dep_of (md := .any) 3 hdep (by kernel_rfl)
            have e3 : t 52 = .slice a' l'.length c' := hrel 3 d3
            clear ho hdep hi
            refine wpOp_step (by rw [List.getElem?_toArray]; rfl) (fun K' hK => ?_)
            have HK := Lib.hid hK
            have HR := Lib.hid hrel
            clear hK hrel
            unfold act80
            go_simp
            exact HK.out _ _ (step9 h0 h1 h11 hb hls HR.out 4 (by decide) (.slice (some ⟨w5.heap.size, 0, none⟩) 1 1) _ _ (by simp [act80, upd, slot9, h0, h1, h11, e3]) (below_alloc1 _ _) (⟨_, rfl, heap_alloc_new _ _⟩))
          · have eo := Option.some.inj (ho.symm.trans (by rw [List.getElem?_toArray]; rfl))
            subst eo
            have d4 := dep_of (md := .any) 4 hdep (by kernel_rfl)
            obtain ⟨g4, e4, m4⟩ : ∃ g : Nat, t 53 = .slice (some ⟨g, 0, none⟩) 1 1 ∧ w5.heap[g]? = some (.cells #[.slice a' l'.length c'] 22 (0, 0)) := hrel 4 d4
            clear ho hdep hi
            refine wpOp_step (by rw [List.getElem?_toArray]; rfl) (fun K' hK => ?_)
            have HK := Lib.hid hK
            have HR := Lib.hid hrel
            clear hK hrel
            unfold act80
            go_simp
            with_reducible refine (sum1n (w0 := w) _ _ _ _ l' rfl G.out.2.1 gl' hb m4).mono ?_
            rintro e w6 ⟨rfl, rfl⟩
            exact HK.out _ _ (step9 h0 h1 h11 hb hls HR.out 5 (by decide) (.int .u32 (u (more 0#32 l'))) _ _ (by simp [act80, upd, slot9, h0, h1, h11, e4]) (Below.refl _ _) (rfl))
          · have eo := Option.some.inj (ho.symm.trans (by rw [List.getElem?_toArray]; rfl))
            subst eo
            clear ho hdep hi
            refine wpOp_step (by rw [List.getElem?_toArray]; rfl) (fun K' hK => ?_)
            have HK := Lib.hid hK
            have HR := Lib.hid hrel
            clear hK hrel
            unfold act80
            go_simp
            exact HK.out _ _ (step9 h0 h1 h11 hb hls HR.out 6 (by decide) (.slice a' l'.length c') _ w5 (by simp [act80, upd, slot9, h0, h1, h11]) (Below.refl _ _) (rfl))
          · have eo := Option.some.inj (ho.symm.trans (by rw [List.getElem?_toArray]; rfl))
            subst eo
            have d6 := dep_of (md := .any) 6 hdep (by kernel_rfl)
            have e6 : t 55 = .slice a' l'.length c' := hrel 6 d6
            clear ho hdep hi
            refine wpOp_step (by rw [List.getElem?_toArray]; rfl) (fun K' hK => ?_)
            have HK := Lib.hid hK
            have HR := Lib.hid hrel
            clear hK hrel
            unfold act80
            go_simp
            exact HK.out _ _ (step9 h0 h1 h11 hb hls HR.out 7 (by decide) (.int .i64 (l'.length : Int)) _ w5 (by simp [act80, upd, slot9, h0, h1, h11, e6]) (Below.refl _ _) (rfl))
          · have eo := Option.some.inj (ho.symm.trans (by rw [List.getElem?_toArray]; rfl))
            subst eo
            have d7 := dep_of (md := .any) 7 hdep (by kernel_rfl)
            have e7 : t 56 = .int .i64 (l'.length : Int) := hrel 7 d7
            clear ho hdep hi
            refine wpOp_step (by rw [List.getElem?_toArray]; rfl) (fun K' hK => ?_)
            have HK := Lib.hid hK
            have HR := Lib.hid hrel
            clear hK hrel
            unfold act80
            have ML : (l'.length : Int) % 4294967296 = (l'.length : Int) := by have := G.out.2.2.2; omega
            have ML2 := wrap_u32_nat l'.length (by have := G.out.2.2.2; omega)
            go_simp
            exact HK.out _ _ (step9 h0 h1 h11 hb hls HR.out 8 (by decide) (.int .u32 (l'.length : Int)) _ w5 (by simp [act80, upd, slot9, h0, h1, h11, e7]) (Below.refl _ _) (rfl))
          · have eo := Option.some.inj (ho.symm.trans (by rw [List.getElem?_toArray]; rfl))
            subst eo
            have d2 := dep_of (md := .any) 2 hdep (by kernel_rfl)
            have d5 := dep_of (md := .any) 5 hdep (by kernel_rfl)
            have d8 := dep_of (md := .any) 8 hdep (by kernel_rfl)
            have e2 : t 51 = .int .u32 (u (more 0#32 l)) := hrel 2 d2
            have e5 : t 54 = .int .u32 (u (more 0#32 l')) := hrel 5 d5
            have e8 : t 57 = .int .u32 (l'.length : Int) := hrel 8 d8
            clear ho hdep hi
            refine wpOp_step (by rw [List.getElem?_toArray]; rfl) (fun K' hK => ?_)
            have HK := Lib.hid hK
            have HR := Lib.hid hrel
            clear hK hrel
            unfold act80
            go_simp
            with_reducible refine (join_calls _ _ _ _ (by have := G.out.2.2.2; omega)).mono ?_
            rintro e w6 ⟨rfl, hbJ⟩
            rw [join_more]
            exact HK.out _ _ (step9 h0 h1 h11 hb hls HR.out 9 (by decide) (.int .u32 (u (more 0#32 (l ++ l')))) _ w6 (by simp [act80, upd, slot9, h0, h1, h11, e2, e5, e8]) (hbJ) (rfl))
          · have eo := Option.some.inj (ho.symm.trans (by rw [List.getElem?_toArray]; rfl))
            subst eo
            clear ho hdep hi
            refine wpOp_step (by rw [List.getElem?_toArray]; rfl) (fun K' hK => ?_)
            have HK := Lib.hid hK
            have HR := Lib.hid hrel
            clear hK hrel
            unfold act80
            go_simp
            exact HK.out _ _ (step9 h0 h1 h11 hb hls HR.out 10 (by decide) (.slice a l.length c) _ w5 (by simp [act80, upd, slot9, h0, h1, h11]) (Below.refl _ _) (rfl))
          · have eo := Option.some.inj (ho.symm.trans (by rw [List.getElem?_toArray]; rfl))
            subst eo
            clear ho hdep hi
            refine wpOp_step (by rw [List.getElem?_toArray]; rfl) (fun K' hK => ?_)
            have HK := Lib.hid hK
            have HR := Lib.hid hrel
            clear hK hrel
            unfold act80
            go_simp
            exact HK.out _ _ (step9 h0 h1 h11 hb hls HR.out 11 (by decide) (.slice a' l'.length c') _ w5 (by simp [act80, upd, slot9, h0, h1, h11]) (Below.refl _ _) (rfl))
          · have eo := Option.some.inj (ho.symm.trans (by rw [List.getElem?_toArray]; rfl))
            subst eo
            have d10 := dep_of (md := .any) 10 hdep (by kernel_rfl)
            have d11 := dep_of (md := .any) 11 hdep (by kernel_rfl)
            have e10 : t 59 = .slice a l.length c := hrel 10 d10
            have e11 : t 60 = .slice a' l'.length c' := hrel 11 d11
            clear ho hdep hi
            refine wpOp_step (by rw [List.getElem?_toArray]; rfl) (fun K' hK => ?_)
            have HK := Lib.hid hK
            have HR := Lib.hid hrel
            clear hK hrel
            unfold act80
            go_simp
            exact HK.out _ _ (step9 h0 h1 h11 hb hls HR.out 12 (by decide) (.slice (some ⟨w5.heap.size, 0, none⟩) 2 2) _ _ (by simp [act80, upd, slot9, h0, h1, h11, e10, e11]) (below_alloc1 _ _) (⟨_, rfl, heap_alloc_new _ _⟩))
          · have eo := Option.some.inj (ho.symm.trans (by rw [List.getElem?_toArray]; rfl))
            subst eo
            have d12 := dep_of (md := .any) 12 hdep (by kernel_rfl)
            obtain ⟨g12, e12, m12⟩ : ∃ g : Nat, t 61 = .slice (some ⟨g, 0, none⟩) 2 2 ∧ w5.heap[g]? = some (.cells #[.slice a l.length c, .slice a' l'.length c'] 22 (0, 0)) := hrel 12 d12
            clear ho hdep hi
            refine wpOp_step (by rw [List.getElem?_toArray]; rfl) (fun K' hK => ?_)
            have HK := Lib.hid hK
            have HR := Lib.hid hrel
            clear hK hrel
            unfold act80
            go_simp
            with_reducible refine (sum2 (w0 := w) _ _ _ _ _ l l' G.out.1 G.out.2.1 gl gl' hb m12).mono ?_
            rintro e w6 ⟨rfl, rfl⟩
            exact HK.out _ _ (step9 h0 h1 h11 hb hls HR.out 13 (by decide) (.int .u32 (u (more 0#32 (l ++ l')))) _ _ (by simp [act80, upd, slot9, h0, h1, h11, e12]) (Below.refl _ _) (rfl))
          · have eo := Option.some.inj (ho.symm.trans (by rw [List.getElem?_toArray]; rfl))
            subst eo
            have d9 := dep_of (md := .any) 9 hdep (by kernel_rfl)
            have d13 := dep_of (md := .any) 13 hdep (by kernel_rfl)
            have e9 : t 58 = .int .u32 (u (more 0#32 (l ++ l'))) := hrel 9 d9
            have e13 : t 62 = .int .u32 (u (more 0#32 (l ++ l'))) := hrel 13 d13
            clear ho hdep hi
            refine wpOp_step (by rw [List.getElem?_toArray]; rfl) (fun K' hK => ?_)
            have HK := Lib.hid hK
            have HR := Lib.hid hrel
            clear hK hrel
            unfold act80
            go_simp
            exact HK.out _ _ (step9 h0 h1 h11 hb hls HR.out 14 (by decide) (.bool true) _ w5 (by simp [act80, upd, slot9, h0, h1, h11, e9, e13]) (Below.refl _ _) (rfl))
          · have eo := Option.some.inj (ho.symm.trans (by rw [List.getElem?_toArray]; rfl))
            subst eo
            have d14 := dep_of (md := .any) 14 hdep (by kernel_rfl)
            have e14 : t 63 = .bool true := hrel 14 d14
            clear ho hdep hi
            refine wpOp_step (by rw [List.getElem?_toArray]; rfl) (fun K' hK => ?_)
            have HK := Lib.hid hK
            have HR := Lib.hid hrel
            clear hK hrel
            unfold act80
            go_simp
            exact HK.out _ _ (step9 h0 h1 h11 hb hls HR.out 15 (by decide) (.bool true) _ w5 (by simp [act80, upd, slot9, h0, h1, h11, e14]) (Below.refl _ _) (rfl))
          · have eo := Option.some.inj (ho.symm.trans (by rw [List.getElem?_toArray]; rfl))
            subst eo
            have d15 := dep_of (md := .any) 15 hdep (by kernel_rfl)
            have e15 : t 64 = .bool true := hrel 15 d15
            clear ho hdep hi
            refine wpOp_step (by rw [List.getElem?_toArray]; rfl) (fun K' hK => ?_)
            have HK := Lib.hid hK
            have HR := Lib.hid hrel
            clear hK hrel
            unfold act80
            go_simp
            exact HK.out _ _ (step9 h0 h1 h11 hb hls HR.out 16 (by decide) (.slice a l.length c) _ w5 (by simp [act80, upd, slot9, h0, h1, h11, e15]) (Below.refl _ _) (rfl))
          · have eo := Option.some.inj (ho.symm.trans (by rw [List.getElem?_toArray]; rfl))
            subst eo
            have d15 := dep_of (md := .any) 15 hdep (by kernel_rfl)
            have d16 := dep_of (md := .any) 16 hdep (by kernel_rfl)
            have e15 : t 64 = .bool true := hrel 15 d15
            have e16 : t 65 = .slice a l.length c := hrel 16 d16
            clear ho hdep hi
            refine wpOp_step (by rw [List.getElem?_toArray]; rfl) (fun K' hK => ?_)
            have HK := Lib.hid hK
            have HR := Lib.hid hrel
            clear hK hrel
            unfold act80
            go_simp
            exact HK.out _ _ (step9 h0 h1 h11 hb hls HR.out 17 (by decide) (.slice (some ⟨w5.heap.size, 0, none⟩) 1 1) _ _ (by simp [act80, upd, slot9, h0, h1, h11, e15, e16]) (below_alloc1 _ _) (⟨_, rfl, heap_alloc_new _ _⟩))
          · have eo := Option.some.inj (ho.symm.trans (by rw [List.getElem?_toArray]; rfl))
            subst eo
            have d15 := dep_of (md := .any) 15 hdep (by kernel_rfl)
            have d17 := dep_of (md := .any) 17 hdep (by kernel_rfl)
            have e15 : t 64 = .bool true := hrel 15 d15
            obtain ⟨g17, e17, m17⟩ : ∃ g : Nat, t 66 = .slice (some ⟨g, 0, none⟩) 1 1 ∧ w5.heap[g]? = some (.cells #[.slice a l.length c] 22 (0, 0)) := hrel 17 d17
            clear ho hdep hi
            refine wpOp_step (by rw [List.getElem?_toArray]; rfl) (fun K' hK => ?_)
            have HK := Lib.hid hK
            have HR := Lib.hid hrel
            clear hK hrel
            unfold act80
            go_simp
            with_reducible refine (sum1n (w0 := w) _ _ _ _ l rfl G.out.1 gl hb m17).mono ?_
            rintro e w6 ⟨rfl, rfl⟩
            exact HK.out _ _ (step9 h0 h1 h11 hb hls HR.out 18 (by decide) (.int .u32 (u (more 0#32 l))) _ _ (by simp [act80, upd, slot9, h0, h1, h11, e15, e17]) (Below.refl _ _) (rfl))
          · have eo := Option.some.inj (ho.symm.trans (by rw [List.getElem?_toArray]; rfl))
            subst eo
            have d15 := dep_of (md := .any) 15 hdep (by kernel_rfl)
            have e15 : t 64 = .bool true := hrel 15 d15
            clear ho hdep hi
            refine wpOp_step (by rw [List.getElem?_toArray]; rfl) (fun K' hK => ?_)
            have HK := Lib.hid hK
            have HR := Lib.hid hrel
            clear hK hrel
            unfold act80
            go_simp
            exact HK.out _ _ (step9 h0 h1 h11 hb hls HR.out 19 (by decide) (.int .u32 (k : Int)) _ w5 (by simp [act80, upd, slot9, h0, h1, h11, e15]) (Below.refl _ _) (rfl))
          · have eo := Option.some.inj (ho.symm.trans (by rw [List.getElem?_toArray]; rfl))
            subst eo
            have d15 := dep_of (md := .any) 15 hdep (by kernel_rfl)
            have d18 := dep_of (md := .any) 18 hdep (by kernel_rfl)
            have d19 := dep_of (md := .any) 19 hdep (by kernel_rfl)
            have e15 : t 64 = .bool true := hrel 15 d15
            have e18 : t 67 = .int .u32 (u (more 0#32 l)) := hrel 18 d18
            have e19 : t 68 = .int .u32 (k : Int) := hrel 19 d19
            clear ho hdep hi
            refine wpOp_step (by rw [List.getElem?_toArray]; rfl) (fun K' hK => ?_)
            have HK := Lib.hid hK
            have HR := Lib.hid hrel
            clear hK hrel
            unfold act80
            go_simp
            with_reducible refine (zeros_calls _ k _ (by have := K.out; omega)).mono ?_
            rintro e w6 ⟨rfl, hbZ⟩
            rw [zeros_more]
            exact HK.out _ _ (step9 h0 h1 h11 hb hls HR.out 20 (by decide) (.int .u32 (u (more 0#32 (l ++ List.replicate k 0)))) _ w6 (by simp [act80, upd, slot9, h0, h1, h11, e15, e18, e19]) (hbZ) (rfl))
          · have eo := Option.some.inj (ho.symm.trans (by rw [List.getElem?_toArray]; rfl))
            subst eo
            have d15 := dep_of (md := .any) 15 hdep (by kernel_rfl)
            have e15 : t 64 = .bool true := hrel 15 d15
            clear ho hdep hi
            refine wpOp_step (by rw [List.getElem?_toArray]; rfl) (fun K' hK => ?_)
            have HK := Lib.hid hK
            have HR := Lib.hid hrel
            clear hK hrel
            unfold act80
            go_simp
            exact HK.out _ _ (step9 h0 h1 h11 hb hls HR.out 21 (by decide) (.slice a l.length c) _ w5 (by simp [act80, upd, slot9, h0, h1, h11, e15]) (Below.refl _ _) (rfl))
          · have eo := Option.some.inj (ho.symm.trans (by rw [List.getElem?_toArray]; rfl))
            subst eo
            have d15 := dep_of (md := .any) 15 hdep (by kernel_rfl)
            have e15 : t 64 = .bool true := hrel 15 d15
            clear ho hdep hi
            refine wpOp_step (by rw [List.getElem?_toArray]; rfl) (fun K' hK => ?_)
            have HK := Lib.hid hK
            have HR := Lib.hid hrel
            clear hK hrel
            unfold act80
            go_simp
            exact HK.out _ _ (step9 h0 h1 h11 hb hls HR.out 22 (by decide) (.int .u32 (k : Int)) _ w5 (by simp [act80, upd, slot9, h0, h1, h11, e15]) (Below.refl _ _) (rfl))
          · have eo := Option.some.inj (ho.symm.trans (by rw [List.getElem?_toArray]; rfl))
            subst eo
            have d15 := dep_of (md := .any) 15 hdep (by kernel_rfl)
            have d22 := dep_of (md := .any) 22 hdep (by kernel_rfl)
            have e15 : t 64 = .bool true := hrel 15 d15
            have e22 : t 71 = .int .u32 (k : Int) := hrel 22 d22
            clear ho hdep hi
            refine wpOp_step (by rw [List.getElem?_toArray]; rfl) (fun K' hK => ?_)
            have HK := Lib.hid hK
            have HR := Lib.hid hrel
            clear hK hrel
            unfold act80
            have hmk := fun (w : World) => run_make_row' (P := Try.prog) 22 5 (.int .u8 0) 1 Try.underlying22 info8 rfl .u32 .u32 k (by have := K.out; omega) (by have := K.out; omega) w
            go_simp
            exact HK.out _ _ (step9 h0 h1 h11 hb hls HR.out 23 (by decide) (.slice (some ⟨w5.heap.size, 0, none⟩) k k) _ _ (by simp [act80, upd, slot9, h0, h1, h11, e15, e22]) (below_alloc1 _ _) (⟨_, rfl, heap_alloc_new _ _⟩))
          · have eo := Option.some.inj (ho.symm.trans (by rw [List.getElem?_toArray]; rfl))
            subst eo
            have d15 := dep_of (md := .any) 15 hdep (by kernel_rfl)
            have d21 := dep_of (md := .any) 21 hdep (by kernel_rfl)
            have d23 := dep_of (md := .any) 23 hdep (by kernel_rfl)
            have e15 : t 64 = .bool true := hrel 15 d15
            have e21 : t 70 = .slice a l.length c := hrel 21 d21
            obtain ⟨gz, e23, mz⟩ : ∃ gz : Nat, t 72 = .slice (some ⟨gz, 0, none⟩) k k ∧ w5.heap[gz]? = some (.cells (madeCells #[.int .u8 0] k) 5 (0, 0)) := hrel 23 d23
            clear ho hdep hi
            refine wpOp_step (by rw [List.getElem?_toArray]; rfl) (fun K' hK => ?_)
            have HK := Lib.hid hK
            have HR := Lib.hid hrel
            clear hK hrel
            unfold act80
            go_simp
            exact HK.out _ _ (step9 h0 h1 h11 hb hls HR.out 24 (by decide) (.slice (some ⟨w5.heap.size, 0, none⟩) 2 2) _ _ (by simp [act80, upd, slot9, h0, h1, h11, e15, e21, e23]) (below_alloc1 _ _) (⟨_, gz, rfl, heap_alloc_new _ _, heap_past mz⟩))
          · have eo := Option.some.inj (ho.symm.trans (by rw [List.getElem?_toArray]; rfl))
            subst eo
            have d15 := dep_of (md := .any) 15 hdep (by kernel_rfl)
            have d24 := dep_of (md := .any) 24 hdep (by kernel_rfl)
            have e15 : t 64 = .bool true := hrel 15 d15
            obtain ⟨g24, gz, e24, m24, mz⟩ : ∃ g gz : Nat, t 73 = .slice (some ⟨g, 0, none⟩) 2 2 ∧ w5.heap[g]? = some (.cells #[.slice a l.length c, .slice (some ⟨gz, 0, none⟩) k k] 22 (0, 0)) ∧ w5.heap[gz]? = some (.cells (madeCells #[.int .u8 0] k) 5 (0, 0)) := hrel 24 d24
            clear ho hdep hi
            refine wpOp_step (by rw [List.getElem?_toArray]; rfl) (fun K' hK => ?_)
            have HK := Lib.hid hK
            have HR := Lib.hid hrel
            clear hK hrel
            unfold act80
            go_simp
            with_reducible refine (sum2z (w0 := w) _ _ k _ rfl _ _ l G.out.1 gl (by have := K.out; omega) hb mz m24).mono ?_
            rintro e w6 ⟨rfl, rfl⟩
            exact HK.out _ _ (step9 h0 h1 h11 hb hls HR.out 25 (by decide) (.int .u32 (u (more 0#32 (l ++ List.replicate k 0)))) _ _ (by simp [act80, upd, slot9, h0, h1, h11, e15, e24]) (Below.refl _ _) (rfl))
          · have eo := Option.some.inj (ho.symm.trans (by rw [List.getElem?_toArray]; rfl))
            subst eo
            have d15 := dep_of (md := .any) 15 hdep (by kernel_rfl)
            have d20 := dep_of (md := .any) 20 hdep (by kernel_rfl)
            have d25 := dep_of (md := .any) 25 hdep (by kernel_rfl)
            have e15 : t 64 = .bool true := hrel 15 d15
            have e20 : t 69 = .int .u32 (u (more 0#32 (l ++ List.replicate k 0))) := hrel 20 d20
            have e25 : t 74 = .int .u32 (u (more 0#32 (l ++ List.replicate k 0))) := hrel 25 d25
            clear ho hdep hi
            refine wpOp_step (by rw [List.getElem?_toArray]; rfl) (fun K' hK => ?_)
            have HK := Lib.hid hK
            have HR := Lib.hid hrel
            clear hK hrel
            unfold act80
            go_simp
            exact HK.out _ _ (step9 h0 h1 h11 hb hls HR.out 26 (by decide) (.bool true) _ w5 (by simp [act80, upd, slot9, h0, h1, h11, e15, e20, e25]) (Below.refl _ _) (rfl))
          · have eo := Option.some.inj (ho.symm.trans (by rw [List.getElem?_toArray]; rfl))
            subst eo
            have d15 := dep_of (md := .any) 15 hdep (by kernel_rfl)
            have d26 := dep_of (md := .any) 26 hdep (by kernel_rfl)
            have e15 : t 64 = .bool true := hrel 15 d15
            have e26 : t 75 = .bool true := hrel 26 d26
            clear ho hdep hi
            refine wpOp_step (by rw [List.getElem?_toArray]; rfl) (fun K' hK => ?_)
            have HK := Lib.hid hK
            have HR := Lib.hid hrel
            clear hK hrel
            unfold act80
            go_simp
            exact HK.out _ _ (step9 h0 h1 h11 hb hls HR.out 27 (by decide) (.bool true) _ w5 (by simp [act80, upd, slot9, h0, h1, h11, e15, e26]) (Below.refl _ _) (rfl))
          · have eo := Option.some.inj (ho.symm.trans (by rw [List.getElem?_toArray]; rfl))
            subst eo
            have d27 := dep_of (md := .any) 27 hdep (by kernel_rfl)
            have e27 : t 76 = .bool true := hrel 27 d27
            clear ho hdep hi
            refine wpOp_step (by rw [List.getElem?_toArray]; rfl) (fun K' hK => ?_)
            have HK := Lib.hid hK
            have HR := Lib.hid hrel
            clear hK hrel
            unfold act80
            go_simp
            exact HK.out _ _ (step9 h0 h1 h11 hb hls HR.out 28 (by decide) (.bool true) _ w5 (by simp [act80, upd, slot9, h0, h1, h11, e27]) (Below.refl _ _) (rfl))
          · have eo := Option.some.inj (ho.symm.trans (by rw [List.getElem?_toArray]; rfl))
            subst eo
            have d28 := dep_of (md := .any) 28 hdep (by kernel_rfl)
            have e28 : t 77 = .bool true := hrel 28 d28
            clear ho hdep hi
            refine wpOp_step (by rw [List.getElem?_toArray]; rfl) (fun K' hK => ?_)
            have HK := Lib.hid hK
            have HR := Lib.hid hrel
            clear hK hrel
            unfold act80
            go_simp
            with_reducible refine (alive_calls _).mono ?_
            rintro e w6 ⟨rfl, hbA⟩
            exact HK.out _ _ (step9 h0 h1 h11 hb hls HR.out 29 (by decide) (.bool true) _ w6 (by simp [act80, upd, slot9, h0, h1, h11, e28]) (hbA) (rfl))
          · have eo := Option.some.inj (ho.symm.trans (by rw [List.getElem?_toArray]; rfl))
            subst eo
            have d28 := dep_of (md := .any) 28 hdep (by kernel_rfl)
            have d29 := dep_of (md := .any) 29 hdep (by kernel_rfl)
            have e28 : t 77 = .bool true := hrel 28 d28
            have e29 : t 78 = .bool true := hrel 29 d29
            clear ho hdep hi
            refine wpOp_step (by rw [List.getElem?_toArray]; rfl) (fun K' hK => ?_)
            have HK := Lib.hid hK
            have HR := Lib.hid hrel
            clear hK hrel
            unfold act80
            go_simp
            exact HK.out _ _ (step9 h0 h1 h11 hb hls HR.out 30 (by decide) (.bool true) _ w5 (by simp [act80, upd, slot9, h0, h1, h11, e28, e29]) (Below.refl _ _) (rfl))
          · have eo := Option.some.inj (ho.symm.trans (by rw [List.getElem?_toArray]; rfl))
            subst eo
            have d30 := dep_of (md := .any) 30 hdep (by kernel_rfl)
            have e30 : t 79 = .bool true := hrel 30 d30
            clear ho hdep hi
            refine wpOp_step (by rw [List.getElem?_toArray]; rfl) (fun K' hK => ?_)
            have HK := Lib.hid hK
            have HR := Lib.hid hrel
            clear hK hrel
            unfold act80
            go_simp
            exact HK.out _ _ (step9 h0 h1 h11 hb hls HR.out 31 (by decide) (.bool true) _ w5 (by simp [act80, upd, slot9, h0, h1, h11, e30]) (Below.refl _ _) (rfl))
        · intro listed x w5 hI hall
          obtain ⟨t, rfl, h0, h1, h11, hb, hls, hrel⟩ := hI
          have e31 : t 6 = .bool true := hrel 31 (hall 31 (by show 31 < 32; decide))
          have HB := Lib.hid hb
          clear hall hrel hb h0 h1 h11
          unfold act80
          rw [e31]
          go_wp2_with fail
          go_ret
          exact ⟨rfl, HB.out⟩
end Go.Proofs.Ytocbogagfdbcmaa.Crc
