/- The walk of the law: what is put is got, if it may be. -/
import Derived.Test.YtcgbjodeklknoaaDoorVBack
namespace Go.Proofs.YtcgbjodeklknoaaDoor.Vo
set_option linter.unusedVariables false
set_option linter.unusedSimpArgs false
open Go.RowKit
open Go.Proofs.YtcgbjodeklknoaaDoor.Bit
open Go.Proofs.YtcgbjodeklknoaaDoor.Cd
open Go.Proofs.YtcgbjodeklknoaaDoor.Num (short long long_short)

theorem field_num (most : Nat) (l : List UInt8) (a n : Nat) (rest : List UInt8) (h : l.drop a = short n ++ rest) (hn : n < 18446744073709551616) (hm : n ≤ most) :
    fieldF 0 (readF most) l ⟨a, 0, 0⟩ = (n, ⟨a + (short n).length, 0, 0⟩) := by
  unfold fieldF readF
  simp only [h, long_short n hn rest]
  have : ¬ (most < n) := by omega
  simp [this]
theorem field_one (l : List UInt8) (a : Nat) (x : UInt8) (rest : List UInt8) (h : l.drop a = x :: rest) : fieldF 0 oneF l ⟨a, 0, 0⟩ = (x.toNat, ⟨a + 1, 0, 0⟩) := by
  unfold fieldF
  simp only [h]
  simp [oneF]
theorem seqB_bytes (l : List UInt8) (p : Nat) (vs : List Nat) (hv : ∀ x ∈ vs, x < 256) (h : l.drop p = encB vs) : ∀ k, k ≤ vs.length → seqB l ⟨p, 0, 0⟩ k = ⟨p + k, 0, 0⟩ ∧ (k < vs.length → btB l ⟨p, 0, 0⟩ k = vs.getD k 0) := by
  have step : ∀ k, k < vs.length → fieldF 0 oneF l ⟨p + k, 0, 0⟩ = (vs.getD k 0, ⟨p + k + 1, 0, 0⟩) := by
    intro k hk
    have hd : l.drop (p + k) = UInt8.ofNat (vs.getD k 0) :: encB (vs.drop (k + 1)) := by
      rw [← List.drop_drop, h]
      unfold encB
      rw [← List.map_drop, List.drop_eq_getElem_cons hk, List.map_cons, List.getD_eq_getElem?_getD, List.getElem?_eq_getElem hk]
      rfl
    rw [field_one l (p + k) _ _ hd]
    have : vs.getD k 0 < 256 := by
      rw [List.getD_eq_getElem?_getD, List.getElem?_eq_getElem hk]
      exact hv _ (List.getElem_mem hk)
    rw [UInt8.toNat_ofNat', Nat.mod_eq_of_lt (by omega)]
  intro k
  induction k with
  | zero =>
    intro _
    refine ⟨rfl, fun hk => ?_⟩
    unfold btB seqB
    have := step 0 hk
    rw [Nat.add_zero] at this
    rw [this]
  | succ k ih =>
    intro hk
    obtain ⟨h1, _⟩ := ih (by omega)
    have h2 : seqB l ⟨p, 0, 0⟩ (k + 1) = ⟨p + (k + 1), 0, 0⟩ := by
      show (fieldF 0 oneF l (seqB l ⟨p, 0, 0⟩ k)).2 = _
      rw [h1, step k (by omega)]
      rfl
    refine ⟨h2, fun hk2 => ?_⟩
    unfold btB
    rw [h2]
    have := step (k + 1) hk2
    rw [this]
theorem enc_split (c : Cf) : encC c = short c.e ++ (short c.r ++ (short c.q ++ encB c.V)) := by
  unfold encC encN Cf.nums
  simp [List.append_assoc]
/-- What was put is got. -/
theorem get_put (c : Cf) (hc : c.Ok) (hm : mayF c = true) : getF (encC c) ⟨0, 0, 0⟩ = c ∧ getS (encC c) ⟨0, 0, 0⟩ = ⟨(encC c).length, 0, 0⟩ := by
  have he : c.e ≤ 2147483647 := by
    unfold mayF at hm
    rw [decide_eq_true_eq] at hm
    exact hm.2.1
  have hr := hc.r
  have hq := hc.q
  have hl := enc_split c
  obtain ⟨l, hll⟩ : ∃ l, l = encC c := ⟨_, rfl⟩
  rw [← hll] at hl ⊢
  have dA : getA l ⟨0, 0, 0⟩ = (c.e, ⟨0 + (short c.e).length, 0, 0⟩) := field_num _ l 0 c.e _ (by rw [List.drop_zero]; exact hl) (by omega) he
  have d1 : l.drop (0 + (short c.e).length) = short c.r ++ (short c.q ++ encB c.V) := by rw [Nat.zero_add, hl, List.drop_left]
  have dB : getB l ⟨0, 0, 0⟩ = (c.r, ⟨0 + (short c.e).length + (short c.r).length, 0, 0⟩) := by
    unfold getB
    rw [dA]
    exact field_num _ l _ c.r _ d1 (by omega) (by omega)
  have d2 : l.drop (0 + (short c.e).length + (short c.r).length) = short c.q ++ encB c.V := by rw [← List.drop_drop, d1, List.drop_left]
  have dD : getD_ l ⟨0, 0, 0⟩ = (c.q, ⟨0 + (short c.e).length + (short c.r).length + (short c.q).length, 0, 0⟩) := by
    unfold getD_
    rw [dB]
    exact field_num _ l _ c.q _ d2 (by omega) (by omega)
  have d3 : l.drop (0 + (short c.e).length + (short c.r).length + (short c.q).length) = encB c.V := by rw [← List.drop_drop, d2, List.drop_left]
  have hsb := seqB_bytes l _ c.V hc.v d3
  have hS : getS l ⟨0, 0, 0⟩ = ⟨l.length, 0, 0⟩ := by
    unfold getS
    rw [dD]
    rw [(hsb 8 (by rw [Cf.len]; omega)).1]
    have : l.length = 0 + (short c.e).length + (short c.r).length + (short c.q).length + 8 := by
      rw [hl]
      simp only [List.length_append]
      have : (encB c.V).length = 8 := by unfold encB; rw [List.length_map, Cf.len]
      omega
    rw [this]
  refine ⟨?_, hS⟩
  unfold getF
  rw [hS, if_pos ⟨rfl, rfl⟩]
  unfold getC
  rw [dA, dB, dD]
  have hb : ∀ k, k < 8 → btB l ⟨0 + (short c.e).length + (short c.r).length + (short c.q).length, 0, 0⟩ k = c.V.getD k 0 := fun k hk => (hsb k (by rw [Cf.len]; omega)).2 (by rw [Cf.len]; exact hk)
  unfold gC
  simp only [hb 0 (by omega), hb 1 (by omega), hb 2 (by omega), hb 3 (by omega), hb 4 (by omega), hb 5 (by omega), hb 6 (by omega), hb 7 (by omega)]
  rfl
theorem encC_len (c : Cf) : (encC c).length ≤ 38 := by
  have h1 := encN_len c.nums
  have h2 : c.nums.length = 3 := rfl
  have h3 : (encB c.V).length = 8 := by unfold encB; rw [List.length_map, Cf.len]
  unfold encC
  rw [List.length_append]
  omega
theorem gC_ok (e r q : Nat) (bt : Nat → Nat) (he : e < 4294967296) (hr : r < 256) (hq : q < 256) (hb : ∀ k, bt k < 256) : (gC e r q bt 8).Ok := by
  refine ⟨he, hr, hq, ?_⟩
  intro x hx
  have h : ∀ i, gz i 8 (bt i) < 256 := by
    intro i
    unfold gz
    split
    · exact hb i
    · omega
  unfold gC Cf.V at hx
  simp only [List.mem_cons, List.not_mem_nil, or_false] at hx
  rcases hx with rfl | rfl | rfl | rfl | rfl | rfl | rfl | rfl
  · exact h 0
  · exact h 1
  · exact h 2
  · exact h 3
  · exact h 4
  · exact h 5
  · exact h 6
  · exact h 7
theorem getC_ok (l : List UInt8) (s : Rs) : (getC l s).Ok := by
  have h1 : (getA l s).1 ≤ 2147483647 := by unfold getA; exact field_most _ _ _
  have h2 : (getB l s).1 ≤ 255 := by unfold getB; exact field_most _ _ _
  have h3 : (getD_ l s).1 ≤ 255 := by unfold getD_; exact field_most _ _ _
  unfold getC
  exact gC_ok _ _ _ _ (Nat.lt_of_le_of_lt h1 (by decide)) (Nat.lt_of_le_of_lt h2 (by decide)) (Nat.lt_of_le_of_lt h3 (by decide)) (fun k => by unfold btB; exact field_byte _ _)
theorem getF_ok (l : List UInt8) (s : Rs) : (getF l s).Ok := by
  unfold getF
  split
  · exact getC_ok l s
  · exact ⟨by decide, by decide, by decide, by decide⟩
set_option maxHeartbeats 4000000 in
set_option maxRecDepth 100000 in
theorem VotesBack_walk (c : Cf) (hc : c.Ok) (w : World) (hT : TabAt 0 Lib.deBruijn64tab w) (hw : 0 < w.heap.size) :
    Calls Tryd.prog 10 #[c.val] w fun e w' => e = .returned (.bool true) ∧ Below w.heap.size w w' := by
  have hx0 := bx_new c w
  have hbx : Boxed ((w.alloc (.cells #[.int .u32 (c.e : Int), .int .u8 (c.r : Int), .int .u8 (c.q : Int), .int .u8 (c.v0 : Int), .int .u8 (c.v1 : Int), .int .u8 (c.v2 : Int), .int .u8 (c.v3 : Int), .int .u8 (c.v4 : Int), .int .u8 (c.v5 : Int), .int .u8 (c.v6 : Int), .int .u8 (c.v7 : Int)] 25)).alloc (.cells #[.slice none 0 0] 53)) (w.heap.size + 1) 53 (.slice none 0 0) := by
    have := Boxed.new (w.alloc (.cells #[.int .u32 (c.e : Int), .int .u8 (c.r : Int), .int .u8 (c.q : Int), .int .u8 (c.v0 : Int), .int .u8 (c.v1 : Int), .int .u8 (c.v2 : Int), .int .u8 (c.v3 : Int), .int .u8 (c.v4 : Int), .int .u8 (c.v5 : Int), .int .u8 (c.v6 : Int), .int .u8 (c.v7 : Int)] 25)) 53 (.slice none 0 0)
    rwa [World.size_alloc] at this
  have hx1 : Bx w c ((w.alloc (.cells #[.int .u32 (c.e : Int), .int .u8 (c.r : Int), .int .u8 (c.q : Int), .int .u8 (c.v0 : Int), .int .u8 (c.v1 : Int), .int .u8 (c.v2 : Int), .int .u8 (c.v3 : Int), .int .u8 (c.v4 : Int), .int .u8 (c.v5 : Int), .int .u8 (c.v6 : Int), .int .u8 (c.v7 : Int)] 25)).alloc (.cells #[.slice none 0 0] 53)) := ⟨hx0.1.alloc (by simp) _, hx0.2.below (below_alloc1 _ _)⟩
  have hws : Wst w.heap.size 53 (w.heap.size + 1) (.slice none 0 0) [] ((w.alloc (.cells #[.int .u32 (c.e : Int), .int .u8 (c.r : Int), .int .u8 (c.q : Int), .int .u8 (c.v0 : Int), .int .u8 (c.v1 : Int), .int .u8 (c.v2 : Int), .int .u8 (c.v3 : Int), .int .u8 (c.v4 : Int), .int .u8 (c.v5 : Int), .int .u8 (c.v6 : Int), .int .u8 (c.v7 : Int)] 25)).alloc (.cells #[.slice none 0 0] 53)) := ⟨hbx, Own8.nil _ _ _⟩
  have hlen := encC_len c
  have hgp := get_put c hc
  have hcc : ((w.alloc (.cells #[.int .u32 (c.e : Int), .int .u8 (c.r : Int), .int .u8 (c.q : Int), .int .u8 (c.v0 : Int), .int .u8 (c.v1 : Int), .int .u8 (c.v2 : Int), .int .u8 (c.v3 : Int), .int .u8 (c.v4 : Int), .int .u8 (c.v5 : Int), .int .u8 (c.v6 : Int), .int .u8 (c.v7 : Int)] 25)).alloc (.cells #[.slice none 0 0] 53)).heap[w.heap.size]? = some (.cells c.cells.toArray 25 (0, 0)) := by
    rw [heap_alloc_old _ _ (by simp), heap_alloc_new]; rfl
  have G := Lib.hid (And.intro hx1 (And.intro hws (And.intro hc (And.intro hT (And.intro hgp (And.intro hlen hcc))))))
  clear hx0 hbx hx1 hws hc hT hgp hlen hcc
  unfold Cf.val
  obtain ⟨k0, k1, k2, k3, k4, k5, k6, k7, k8, k9, k10⟩ := G.out.1.2
  go_enter Tryd.func10, Tryd.ntmps10
  go_wp2_with fail
  generalize (w.alloc (.cells #[.int .u32 (c.e : Int), .int .u8 (c.r : Int), .int .u8 (c.q : Int), .int .u8 (c.v0 : Int), .int .u8 (c.v1 : Int), .int .u8 (c.v2 : Int), .int .u8 (c.v3 : Int), .int .u8 (c.v4 : Int), .int .u8 (c.v5 : Int), .int .u8 (c.v6 : Int), .int .u8 (c.v7 : Int)] 25)).alloc (.cells #[.slice none 0 0] 53) = w1 at G k0 k1 k2 k3 k4 k5 k6 k7 k8 k9 k10 ⊢
  refine (cput_calls w.heap.size (w.heap.size + 1) (.slice none 0 0) [] c G.out.2.2.1 w1 G.out.2.1 (by omega) (by simp)).mono ?_
  rintro e w2 ⟨rfl, v2, hw2, ht2⟩
  rw [List.nil_append] at hw2
  have hbel := G.out.1.1.trans (ht2.below G.out.2.1 (by omega))
  have hcb := turn_heap ht2 G.out.2.2.2.2.2.2 (by omega) (by simp [Value.ownBlock])
  have hlt2 := (Array.getElem?_eq_some_iff.1 hcb).1
  have H2 := Lib.hid (And.intro hw2 (And.intro hbel hcb))
  clear hw2 hbel hcb ht2 k0 k1 k2 k3 k4 k5 k6 k7 k8 k9 k10
  go_wp2_with fail
  refine (bytes_calls _ _ v2 _ w2 H2.out.1 (Nat.le_trans G.out.2.2.2.2.2.1 (by decide))).mono ?_
  rintro e w3 ⟨v3, rfl, ho3, hb3⟩
  obtain ⟨A3, c3, rfl, hr3, _, _, hn3⟩ := ho3.row
  have hs3 := hb3.size
  have H3 := Lib.hid (And.intro hr3 (And.intro (H2.out.2.1.trans (hb3.mono (by omega))) ((hb3.block _ hlt2).trans H2.out.2.2)))
  clear hr3 ho3 hb3
  go_wp2_with fail
  refine (new_calls A3 c3 _ w3 H3.out.1 hn3 (Nat.le_trans G.out.2.2.2.2.2.1 (by decide))).mono ?_
  rintro e w4 ⟨g2, A4, c4, rfl, hr4, hb4, hg2⟩
  have hs4 := hb4.size
  have hlt4 : w.heap.size < w3.heap.size := by omega
  have H4 := Lib.hid (And.intro hr4 (And.intro (H3.out.2.1.trans (hb4.mono (by omega))) ((hb4.block _ hlt4).trans H3.out.2.2)))
  clear hr4 hb4
  go_wp2_with fail
  refine (cget_calls g2 A4 c4 _ _ w4 H4.out.1).mono ?_
  rintro e w5 ⟨rfl, hr5, hb5⟩
  obtain ⟨x, hx⟩ : ∃ x, x = getF (encC c) ⟨0, 0, 0⟩ := ⟨_, rfl⟩
  have hok := getF_ok (encC c) ⟨0, 0, 0⟩
  rw [← hx] at hok ⊢
  have hs5 := hb5.size
  have H5 := Lib.hid (And.intro hr5 (And.intro (H4.out.2.1.trans (hb5.below (by omega) (by omega))) (And.intro (hb5.heap H4.out.2.2 (by omega)) hx)))
  clear hr5 hb5 hx
  unfold Cf.val
  have hb6 : Below w5.heap.size w5 (w5.alloc (.cells #[.int .u32 (x.e : Int), .int .u8 (x.r : Int), .int .u8 (x.q : Int), .int .u8 (x.v0 : Int), .int .u8 (x.v1 : Int), .int .u8 (x.v2 : Int), .int .u8 (x.v3 : Int), .int .u8 (x.v4 : Int), .int .u8 (x.v5 : Int), .int .u8 (x.v6 : Int), .int .u8 (x.v7 : Int)] 25)) := below_alloc1 _ _
  have h6 : BoxS w.heap.size c (w5.alloc (.cells #[.int .u32 (x.e : Int), .int .u8 (x.r : Int), .int .u8 (x.q : Int), .int .u8 (x.v0 : Int), .int .u8 (x.v1 : Int), .int .u8 (x.v2 : Int), .int .u8 (x.v3 : Int), .int .u8 (x.v4 : Int), .int .u8 (x.v5 : Int), .int .u8 (x.v6 : Int), .int .u8 (x.v7 : Int)] 25)) := (boxS_heap H5.out.2.2.1).below hb6
  have hx6 : BoxS w5.heap.size x (w5.alloc (.cells #[.int .u32 (x.e : Int), .int .u8 (x.r : Int), .int .u8 (x.q : Int), .int .u8 (x.v0 : Int), .int .u8 (x.v1 : Int), .int .u8 (x.v2 : Int), .int .u8 (x.v3 : Int), .int .u8 (x.v4 : Int), .int .u8 (x.v5 : Int), .int .u8 (x.v6 : Int), .int .u8 (x.v7 : Int)] 25)) := boxS_new x w5
  have H6 := Lib.hid (And.intro (H5.out.1.below hb6) (And.intro (H5.out.2.1.trans (hb6.mono (by omega))) (And.intro h6 hx6)))
  have hW5 : w5.heap.size < (w5.alloc (.cells #[.int .u32 (x.e : Int), .int .u8 (x.r : Int), .int .u8 (x.q : Int), .int .u8 (x.v0 : Int), .int .u8 (x.v1 : Int), .int .u8 (x.v2 : Int), .int .u8 (x.v3 : Int), .int .u8 (x.v4 : Int), .int .u8 (x.v5 : Int), .int .u8 (x.v6 : Int), .int .u8 (x.v7 : Int)] 25)).heap.size := by simp
  clear hb6 h6 hx6
  obtain ⟨k0, k1, k2, k3, k4, k5, k6, k7, k8, k9, k10⟩ := H6.out.2.2.1
  go_wp2_with fail
  generalize hg3 : w5.heap.size = g3 at H6 hW5 ⊢
  generalize w5.alloc (.cells #[.int .u32 (x.e : Int), .int .u8 (x.r : Int), .int .u8 (x.q : Int), .int .u8 (x.v0 : Int), .int .u8 (x.v1 : Int), .int .u8 (x.v2 : Int), .int .u8 (x.v3 : Int), .int .u8 (x.v4 : Int), .int .u8 (x.v5 : Int), .int .u8 (x.v6 : Int), .int .u8 (x.v7 : Int)] 25) = w6 at H6 k0 k1 k2 k3 k4 k5 k6 k7 k8 k9 k10 hW5 ⊢
  refine (vmay_calls c G.out.2.2.1 w6).mono ?_
  rintro e w7 ⟨rfl, hb7⟩
  clear k0 k1 k2 k3 k4 k5 k6 k7 k8 k9 k10
  have hs7 := hb7.size
  have hs6 := H6.out.2.1.size
  have H7 := Lib.hid (And.intro (H6.out.1.below hb7) (And.intro (H6.out.2.1.trans (hb7.mono hs6)) (And.intro (H6.out.2.2.1.below hb7) (H6.out.2.2.2.below hb7))))
  clear hb7
  cases hm : mayF c with
  | false =>
    clear hm
    go_wp2_with fail
    refine (alive_calls w7 (tab_below G.out.2.2.2.1 H7.out.2.1 hw) (by omega)).mono ?_
    rintro e w8 ⟨rfl, hb8⟩
    have hbe := H7.out.2.1.trans (hb8.mono (by omega))
    go_wp2_with fail
    go_ret
    exact ⟨rfl, hbe⟩
  | true =>
    obtain ⟨e1, e2⟩ := G.out.2.2.2.2.1 hm
    obtain rfl : c = x := (H5.out.2.2.2.trans e1).symm
    have hE : endF (encC c) (getS (encC c) ⟨0, 0, 0⟩) = ⟨(encC c).length, 0, 0⟩ := by
      rw [e2]; unfold endF leftF; simp
    have hend := end_calls g2 A4 c4 (encC c) (getS (encC c) ⟨0, 0, 0⟩) w7 H7.out.1
    rw [hE] at hend
    have HE := Lib.hid hend
    have heq := eq_votes c w7
    have hun : undef = Value.tuple #[] := rfl
    obtain ⟨k0, k1, k2, k3, k4, k5, k6, k7, k8, k9, k10⟩ := H7.out.2.2.1
    obtain ⟨m0, m1, m2, m3, m4, m5, m6, m7, m8, m9, m10⟩ := H7.out.2.2.2
    clear hm e1 e2 hE hend
    go_wp2_with fail
    refine HE.out.mono ?_
    rintro e w8 ⟨rfl, hr8, hb8⟩
    have hbe : Below w.heap.size w w8 := H7.out.2.1.trans (hb8.below (by omega) (by omega))
    have hs8 := hb8.size
    have H8 := Lib.hid hbe
    clear hr8 hb8 hbe k0 k1 k2 k3 k4 k5 k6 k7 k8 k9 k10 m0 m1 m2 m3 m4 m5 m6 m7 m8 m9 m10 heq
    go_wp2_with fail
    refine (alive_calls w8 (tab_below G.out.2.2.2.1 H8.out hw) (by omega)).mono ?_
    rintro e w9 ⟨rfl, hb9⟩
    have hbe := H8.out.trans (hb9.mono (by omega))
    go_wp2_with fail
    go_ret
    exact ⟨rfl, hbe⟩
end Go.Proofs.YtcgbjodeklknoaaDoor.Vo
