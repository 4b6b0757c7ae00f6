/- The walk of the law: a set has so many votes just if a quorum for these is a part of it. -/
import Derived.Test.YtcgbjodeklknoaaDoorVQuorums
namespace Go.Proofs.YtcgbjodeklknoaaDoor.Vo
set_option linter.unusedVariables false
set_option linter.unusedSimpArgs false
open Go.RowKit
open Go.Proofs.YtcgbjodeklknoaaDoor.Bit

/-- The fewest nodes. -/
def leastN (l : List Nat) : Nat := l.foldl (fun a s => min a (cnt s)) 64
theorem leastN_snoc (l : List Nat) (x : Nat) : leastN (l ++ [x]) = min (leastN l) (cnt x) := by unfold leastN; rw [List.foldl_append]; rfl
theorem leastN_spec (l : List Nat) : leastN l ≤ 64 ∧ (∀ x ∈ l, leastN l ≤ cnt x) ∧ (leastN l = 64 ∨ ∃ x ∈ l, leastN l = cnt x) := by
  unfold leastN
  have : ∀ (l : List Nat) (a : Nat), let r := l.foldl (fun a s => min a (cnt s)) a; r ≤ a ∧ (∀ x ∈ l, r ≤ cnt x) ∧ (r = a ∨ ∃ x ∈ l, r = cnt x) := by
    intro l
    induction l with
    | nil => intro a; simp
    | cons y ys ih =>
      intro a
      obtain ⟨h1, h2, h3⟩ := ih (min a (cnt y))
      simp only [List.foldl_cons]
      refine ⟨by omega, fun x hx => ?_, ?_⟩
      · rcases List.mem_cons.1 hx with rfl | hx
        · omega
        · exact h2 x hx
      · rcases h3 with h3 | ⟨x, hx, h3⟩
        · by_cases h : a ≤ cnt y
          · left; omega
          · right; exact ⟨y, List.mem_cons_self, by omega⟩
        · right; exact ⟨x, List.mem_cons_of_mem _ hx, h3⟩
  exact this l 64
theorem leastN_pick {l : List Nat} {m : Nat} (h : pick l = some m) : leastN l = cnt m := by
  obtain ⟨A, B, e, hA, hB⟩ := pick_first h
  obtain ⟨h1, h2, h3⟩ := leastN_spec l
  have hm := h2 m (pick_mem h)
  have hc := cnt_le m
  rcases h3 with h3 | ⟨x, hx, h3⟩
  · omega
  · rw [e] at hx
    rcases List.mem_append.1 hx with hx | hx
    · have := hA x hx; omega
    · rcases List.mem_cons.1 hx with rfl | hx
      · exact h3
      · have := hB x hx; omega
theorem andNot_eq (s v : Nat) (hs : s < 18446744073709551616) (hv : v < 18446744073709551616) : (Go.bits .andNot .u64 (s : Int) (v : Int) == 0) = subB s v := by
  have e := andNot_nat s v hs hv
  rw [e]
  unfold subB
  have hle : s &&& v ≤ s := Nat.and_le_left
  by_cases h : s &&& v = s
  · rw [decide_eq_true h, h]; simp
  · rw [decide_eq_false h, beq_eq_false_iff_ne]; omega
/-- The quorums within a set. -/
def within (Q : List Nat) (f : Nat) : List Nat := Q.filter (fun s => subB s f)
theorem within_take (Q : List Nat) (f k : Nat) (h : k < Q.length) : within (Q.take (k + 1)) f = within (Q.take k) f ++ (if subB Q[k] f = true then [Q[k]] else []) := by
  unfold within
  rw [List.take_succ_eq_append_getElem h, List.filter_append]
  cases hb : subB Q[k] f <;> simp [hb]
theorem least_within (l : List Nat) (want : Int) (f : Nat) : leastF l want f = match pick (within (qs l want) f) with
  | some m => (m, true)
  | none => (0, false) := by
  unfold leastF within
  rw [qs_cz]
  cases pick (List.filter (fun s => subB s f) (qs l want)) <;> rfl
theorem isQ_suff {l : List Nat} {want : Int} {s : Nat} (h : isQ l want s = true) : subB s (voters l) = true ∧ want ≤ (of l s : Int) := by
  unfold isQ suff at h
  simp only [Bool.and_eq_true, decide_eq_true_eq] at h
  exact h.1
theorem qs_isQ {l : List Nat} {want : Int} {s : Nat} (h : s ∈ qs l want) : isQ l want s = true := (List.mem_filter.1 h).2
theorem enough (l : List Nat) (hl : l.length ≤ 8) (want : Int) (f : Nat) : want ≤ (of l f : Int) ↔ within (qs l want) f ≠ [] := by
  constructor
  · intro h hn
    have hv := voters_lt64 l hl
    have hs : f &&& voters l < 256 := Nat.lt_of_le_of_lt Nat.and_le_right hv
    have hsuff : suff l want (f &&& voters l) = true := by
      unfold suff
      rw [of_and_voters, decide_eq_true h, Bool.and_true, subB_iff]
      intro i hi
      rw [Nat.testBit_and] at hi
      simp at hi
      exact hi.2
    obtain ⟨t, ht, htq, hts, _⟩ := quorum_in l want _ _ rfl hs hsuff
    have : t ∈ within (qs l want) f := by
      unfold within qs
      refine List.mem_filter.2 ⟨List.mem_filter.2 ⟨List.mem_range.2 ht, htq⟩, ?_⟩
      refine sub_trans hts ?_
      rw [subB_iff]
      intro i hi
      rw [Nat.testBit_and] at hi
      simp at hi
      exact hi.1
    rw [hn] at this
    cases this
  · intro h
    cases hc : within (qs l want) f with
    | nil => exact absurd hc h
    | cons x xs =>
      have hx : x ∈ within (qs l want) f := by rw [hc]; exact List.mem_cons_self
      obtain ⟨h1, h2⟩ := List.mem_filter.1 hx
      have h3 := (isQ_suff (qs_isQ h1)).2
      have h4 := of_mono l x f (subB_iff.1 h2)
      omega
theorem qs_rising (l : List Nat) (want : Int) (j k : Nat) (hjk : j + 1 = k) (h : k < (qs l want).length) : (qs l want)[j]'(by omega) < (qs l want)[k] := by
  have : (qs l want).Pairwise (· < ·) := by unfold qs; exact List.Pairwise.filter _ List.pairwise_lt_range
  exact List.pairwise_iff_getElem.1 this j k (by omega) h (by omega)
/-- The configuration's block, and a list of sets, behind the world w. -/
def BxU (w : World) (c : Cf) (A : Option Addr) (Q : List Nat) (W : World) : Prop := Bx w c W ∧ RowU W A Q
theorem at_ofU {f : Nat} {args : Array Value} {v : Value} {w W : World} {c : Cf} {A : Option Addr} {Q : List Nat} (h : Hid (BxU w c A Q W)) (hc : Calls Tryd.prog f args W fun e w' => e = .returned v ∧ Below W.heap.size W w') :
    Calls Tryd.prog f args W fun e w' => e = .returned v ∧ Hid (BxU w c A Q w') :=
  hc.mono fun _ _ ⟨he, hb⟩ => ⟨he, Lib.hid ⟨h.out.1.below hb, h.out.2.below hb⟩⟩
theorem list_at {w W : World} {c : Cf} {A : Option Addr} {Q : List Nat} (h : Hid (BxU w c A Q W)) (s : Nat) (hs : s < 18446744073709551616) :
    Calls Tryd.prog 31 #[.int .u64 (s : Int)] W fun e w' => ∃ A' cc, e = .returned (.slice A' (elems s).length cc) ∧ Hid (BxU w c A Q w') :=
  (reflist_calls s hs W).mono fun e w' ⟨v, he, ho, hb⟩ => by
    obtain ⟨A', cc, rfl, _⟩ := own_ints ho
    exact ⟨A', cc, he, Lib.hid ⟨h.out.1.below hb, h.out.2.below hb⟩⟩
set_option maxHeartbeats 8000000 in
set_option maxRecDepth 100000 in
theorem VotesParts_walk (c : Cf) (hc : c.Ok) (want : Int) (h0 : -9223372036854775808 ≤ want) (h1 : want ≤ 9223372036854775807) (f : Nat) (hf : f < 18446744073709551616) (w : World) (hT : TabAt 0 Lib.deBruijn64tab w) (hw : 0 < w.heap.size) :
    Calls Tryd.prog 9 #[c.val, .int .i64 want, .int .u64 (f : Int)] w fun e w' => e = .returned (.bool true) ∧ Below w.heap.size w w' := by
  have t1 := fun W (h : Bx w c W) => vleast_calls c hc want h0 h1 f hf W (tab_below hT h.1 hw) (by have := h.1.size; omega)
  have t2 := fun W => vvoters_calls c hc W
  have t3 := fun W (h : Bx w c W) => vquorums_calls c hc want h0 h1 W (tab_below hT h.1 hw) (by have := h.1.size; omega)
  have t4 := fun W => vof_calls c hc f hf W
  have t5 := fun s (hs : s < 256) W => vof_calls c hc s (by omega) W
  have hql := qs_len c.V want
  have hris0 : ∀ L, L = qs c.V want → ∀ (j k : Nat) (hjk : j + 1 = k) (h : k < L.length), L[j]'(by omega) < L[k] := by rintro L rfl; exact qs_rising c.V want
  have hqt : ∀ s ∈ qs c.V want, s < 256 ∧ subB s (voters c.V) = true ∧ want ≤ (of c.V s : Int) := fun s hs => ⟨qs_lt hs, isQ_suff (qs_isQ hs)⟩
  have hen := enough c.V (by rw [Cf.len]; omega) want f
  have hvl := voters_lt64 c.V (by rw [Cf.len]; omega)
  rw [least_within c.V want f] at t1
  obtain ⟨Q, hQ⟩ : ∃ Q, Q = qs c.V want := ⟨_, rfl⟩
  have hris := hris0 Q hQ
  clear hris0
  simp only [← hQ] at t1 t3 hql hqt hen
  obtain ⟨T, hT2⟩ : ∃ T, T = voters c.V := ⟨_, rfl⟩
  simp only [← hT2] at t2 hqt hvl
  have hle := of_le c.V hc.v
  rw [Cf.len] at hle
  have hnf := hle f
  obtain ⟨nf, hnf2⟩ : ∃ n, n = of c.V f := ⟨_, rfl⟩
  rw [← hnf2] at t4 hen hnf
  have q1 : ∀ W, Hid (Bx w c W) → Calls Tryd.prog 29 #[c.val, .int .i64 want] W fun e w' => ∃ A cc, e = .returned (.slice A Q.length cc) ∧ Hid (BxU w c A Q w') := fun W h => (t3 W h.out).mono fun e w' ⟨v, he, ho, hb⟩ => by
    obtain ⟨A, cc, rfl, hr⟩ := own_sets ho
    exact ⟨A, cc, he, Lib.hid ⟨h.out.below hb, hr⟩⟩
  have G := Lib.hid (And.intro t1 (And.intro t2 (And.intro q1 (And.intro t4 (And.intro t5 (And.intro hris (And.intro hqt (And.intro hen (And.intro hle hT)))))))))
  have HX := Lib.hid (bx_new c w)
  have HF := Lib.hid hf
  clear t1 t2 t3 t4 t5 q1 hris hqt hen hle hT hQ hT2 hnf2 hc hf h0 h1
  unfold Cf.val at G ⊢
  go_enter Tryd.func9, Tryd.ntmps9
  go_wp2_with fail
  generalize w.alloc (.cells #[.int .u32 (c.e : Int), .int .u8 (c.r : Int), .int .u8 (c.q : Int), .int .u8 (c.v0 : Int), .int .u8 (c.v1 : Int), .int .u8 (c.v2 : Int), .int .u8 (c.v3 : Int), .int .u8 (c.v4 : Int), .int .u8 (c.v5 : Int), .int .u8 (c.v6 : Int), .int .u8 (c.v7 : Int)] 25) = w1 at HX ⊢
  refine (G.out.2.2.1 w1 HX).mono ?_
  rintro e w2 ⟨A, cc, rfl, hx2⟩
  go_wp2_with fail
  go_loopw [8, 9, 19] (fun y n i wr => ∃ (k : Nat), k ≤ Q.length ∧ i = .int .i64 (k : Int) ∧ y = .bool (decide (within (Q.take k) f ≠ [])) ∧ n = .int .i64 (leastN (within (Q.take k) f) : Int) ∧ Hid (BxU w c A Q wr)) (fun _ _ i _ => Q.length - (intOf i).toNat)
  case atStart => exact ⟨0, by omega, rfl, by simp [within], rfl, hx2⟩
  case round =>
    obtain ⟨k, hk, rfl, rfl, rfl, hx⟩ := hrel
    obtain ⟨yb, hyb⟩ : ∃ y, y = decide (within (Q.take k) f ≠ []) := ⟨_, rfl⟩
    obtain ⟨ln, hln⟩ : ∃ y, y = leastN (within (Q.take k) f) := ⟨_, rfl⟩
    have hl64 := (leastN_spec (within (Q.take k) f)).1
    rw [← hyb, ← hln]
    rw [← hln] at hl64
    by_cases hlt : k < Q.length
    · obtain ⟨x, rfl, hcl⟩ : ∃ x, A = some x ∧ ∀ i : Nat, ∀ h : i < Q.length, wr.cell? (x.add i) = some (.int .u64 (Q[i] : Int)) := by
        rcases hx.out.2 with h | h
        · rw [h] at hlt; simp at hlt
        · exact h
      have hck := hcl k hlt
      obtain ⟨hq8, hqT, _⟩ := G.out.2.2.2.2.2.2.1 Q[k] (List.getElem_mem hlt)
      have hwt := within_take Q f k hlt
      have hris := fun j (hj : j + 1 = k) => G.out.2.2.2.2.2.1 j k hj hlt
      obtain ⟨q, hq⟩ : ∃ q, q = Q[k] := ⟨_, rfl⟩
      simp only [← hq] at hck hq8 hqT hwt hris
      have hand := andNot_part q T (by omega) (by omega)
      rw [hqT, Bool.not_true] at hand
      have hand2 := andNot_eq q f (by omega) HF.out
      have HW := Lib.hid (And.intro hwt (And.intro hyb (And.intro hln hqT)))
      clear hwt hyb hln hqT hq
      by_cases hk0 : k = 0
      · subst hk0
        have hck0 : wr.cell? x = some (.int .u64 (q : Int)) := by simpa [Addr.add] using hck
        obtain ⟨k0, k1, k2, k3, k4, k5, k6, k7, k8, k9, k10⟩ := hx.out.1.2
        clear hcl hck hris
        go_wp2_with fail
        refine (at_ofU hx (G.out.2.1 wr)).mono ?_
        rintro e w3 ⟨rfl, hx3⟩
        clear k0 k1 k2 k3 k4 k5 k6 k7 k8 k9 k10
        cases hb : subB q f with
        | false =>
          rw [hb] at hand2
          have HB := Lib.hid hb
          clear hb
          go_wp2_with fail
          go_roundw
          case rel => exact ⟨0 + 1, by omega, by go_num, by rw [HW.out.1, HB.out, if_neg (by decide), List.append_nil, ← HW.out.2.1], by rw [HW.out.1, HB.out, if_neg (by decide), List.append_nil, ← HW.out.2.2.1], hx3⟩
          case measure => (first | (simp [intOf]; done) | (simp [intOf]; omega))
        | true =>
          rw [hb] at hand2
          have HB := Lib.hid hb
          clear hb
          go_wp2_with fail
          refine (list_at hx3 q (by omega)).mono ?_
          rintro e w4 ⟨A4, c4, rfl, hx4⟩
          have hl := len_elems q
          have hcnt : cnt q = (elems q).length := rfl
          obtain ⟨n, hn⟩ : ∃ n, n = (elems q).length := ⟨_, rfl⟩
          rw [← hn] at hl hcnt ⊢
          have HN := Lib.hid hcnt
          clear hn hcnt
          by_cases hmin : ln ≤ n
          · go_wp2_with fail
            go_roundw
            case rel => exact ⟨0 + 1, by omega, by go_num, by rw [HW.out.1, HB.out, if_pos rfl]; simp, by rw [HW.out.1, HB.out, if_pos rfl, leastN_snoc, HN.out, ← HW.out.2.2.1, Nat.min_eq_left hmin], hx4⟩
            case measure => (first | (simp [intOf]; done) | (simp [intOf]; omega))
          · go_wp2_with fail
            go_roundw
            case rel => exact ⟨0 + 1, by omega, by go_num, by rw [HW.out.1, HB.out, if_pos rfl]; simp, by rw [HW.out.1, HB.out, if_pos rfl, leastN_snoc, HN.out, ← HW.out.2.2.1, Nat.min_eq_right (by omega)], hx4⟩
            case measure => (first | (simp [intOf]; done) | (simp [intOf]; omega))
      · obtain ⟨j, hj⟩ : ∃ j, j + 1 = k := ⟨k - 1, by omega⟩
        have hcj := hcl j (by omega)
        have hjy := hris j hj
        obtain ⟨z, hz⟩ : ∃ z, z = Q[j]'(by omega) := ⟨_, rfl⟩
        rw [← hz] at hcj hjy
        have hzy : decide (q ≤ z) = false := decide_eq_false (by omega)
        have ek : (k : Int) - 1 = (j : Int) := by omega
        obtain ⟨k0, k1, k2, k3, k4, k5, k6, k7, k8, k9, k10⟩ := hx.out.1.2
        clear hcl hris hz
        go_wp2_with fail
        refine (at_ofU hx (G.out.2.1 wr)).mono ?_
        rintro e w3 ⟨rfl, hx3⟩
        clear k0 k1 k2 k3 k4 k5 k6 k7 k8 k9 k10
        cases hb : subB q f with
        | false =>
          rw [hb] at hand2
          have HB := Lib.hid hb
          clear hb
          go_wp2_with fail
          go_roundw
          case rel => exact ⟨k + 1, by omega, by go_num, by rw [HW.out.1, HB.out, if_neg (by decide), List.append_nil, ← HW.out.2.1], by rw [HW.out.1, HB.out, if_neg (by decide), List.append_nil, ← HW.out.2.2.1], hx3⟩
          case measure => (first | (simp [intOf]; done) | (simp [intOf]; omega))
        | true =>
          rw [hb] at hand2
          have HB := Lib.hid hb
          clear hb
          go_wp2_with fail
          refine (list_at hx3 q (by omega)).mono ?_
          rintro e w4 ⟨A4, c4, rfl, hx4⟩
          have hl := len_elems q
          have hcnt : cnt q = (elems q).length := rfl
          obtain ⟨n, hn⟩ : ∃ n, n = (elems q).length := ⟨_, rfl⟩
          rw [← hn] at hl hcnt ⊢
          have HN := Lib.hid hcnt
          clear hn hcnt
          by_cases hmin : ln ≤ n
          · go_wp2_with fail
            go_roundw
            case rel => exact ⟨k + 1, by omega, by go_num, by rw [HW.out.1, HB.out, if_pos rfl]; simp, by rw [HW.out.1, HB.out, if_pos rfl, leastN_snoc, HN.out, ← HW.out.2.2.1, Nat.min_eq_left hmin], hx4⟩
            case measure => (first | (simp [intOf]; done) | (simp [intOf]; omega))
          · go_wp2_with fail
            go_roundw
            case rel => exact ⟨k + 1, by omega, by go_num, by rw [HW.out.1, HB.out, if_pos rfl]; simp, by rw [HW.out.1, HB.out, if_pos rfl, leastN_snoc, HN.out, ← HW.out.2.2.1, Nat.min_eq_right (by omega)], hx4⟩
            case measure => (first | (simp [intOf]; done) | (simp [intOf]; omega))
    · obtain rfl : k = Q.length := by omega
      rw [List.take_length] at hyb hln
      have cl := G.out.1 wr hx.out.1
      have hen := G.out.2.2.2.2.2.2.2.1
      obtain ⟨k0, k1, k2, k3, k4, k5, k6, k7, k8, k9, k10⟩ := hx.out.1.2
      have hun : undef = Value.tuple #[] := rfl
      cases hp : pick (within Q f) with
      | none =>
        rw [hp] at cl
        have hn := pick_none hp
        have hy : yb = false := by rw [hyb, hn]; decide
        have hlt2 : (nf : Int) < want := by
          by_cases h : (nf : Int) < want
          · exact h
          · exact absurd hn (hen.1 (by omega))
        have hd : decide (want ≤ (nf : Int)) = false := decide_eq_false (by omega)
        have HL := Lib.hid cl
        clear hyb hln cl hen hp hn
        subst hy
        go_wp2_with fail
        refine (at_ofU hx HL.out).mono ?_
        rintro e w3 ⟨rfl, hx3⟩
        clear k0 k1 k2 k3 k4 k5 k6 k7 k8 k9 k10
        obtain ⟨k0, k1, k2, k3, k4, k5, k6, k7, k8, k9, k10⟩ := hx3.out.1.2
        go_wp2_with fail
        refine (at_ofU hx3 (G.out.2.2.2.1 w3)).mono ?_
        rintro e w4 ⟨rfl, hx4⟩
        clear k0 k1 k2 k3 k4 k5 k6 k7 k8 k9 k10
        obtain ⟨k0, k1, k2, k3, k4, k5, k6, k7, k8, k9, k10⟩ := hx4.out.1.2
        go_wp2_with fail
        refine (alive_at (Lib.hid hx4.out.1) G.out.2.2.2.2.2.2.2.2.2 hw).mono ?_
        rintro e w5 ⟨rfl, hx5⟩
        go_wp2_with fail
        go_ret
        exact ⟨rfl, hx5.out.1⟩
      | some m =>
        rw [hp] at cl
        have hm := pick_mem hp
        obtain ⟨hm1, hm2⟩ := List.mem_filter.1 hm
        obtain ⟨hm8, _, hmw⟩ := G.out.2.2.2.2.2.2.1 m hm1
        have hy : yb = true := by rw [hyb]; exact decide_eq_true (fun h => by rw [h] at hm; cases hm)
        have hge : want ≤ (nf : Int) := hen.2 (fun h => by rw [h] at hm; cases hm)
        have hd : decide (want ≤ (nf : Int)) = true := decide_eq_true hge
        have hand := andNot_eq m f (by omega) HF.out
        rw [hm2] at hand
        have hlc : ln = (elems m).length := by rw [hln]; exact leastN_pick hp
        have cof := G.out.2.2.2.2.1 m hm8
        have hom := G.out.2.2.2.2.2.2.2.2.1 m
        obtain ⟨nm, hnm⟩ : ∃ n, n = of c.V m := ⟨_, rfl⟩
        rw [← hnm] at cof hmw hom
        have hd2 : decide (want ≤ (nm : Int)) = true := decide_eq_true hmw
        have HL := Lib.hid (And.intro cl cof)
        clear hyb hln cl hen hp hm hm1 hm2 cof hnm
        subst hy
        subst hlc
        go_wp2_with fail
        refine (at_ofU hx HL.out.1).mono ?_
        rintro e w3 ⟨rfl, hx3⟩
        clear k0 k1 k2 k3 k4 k5 k6 k7 k8 k9 k10
        obtain ⟨k0, k1, k2, k3, k4, k5, k6, k7, k8, k9, k10⟩ := hx3.out.1.2
        go_wp2_with fail
        refine (at_ofU hx3 (G.out.2.2.2.1 w3)).mono ?_
        rintro e w4 ⟨rfl, hx4⟩
        clear k0 k1 k2 k3 k4 k5 k6 k7 k8 k9 k10
        obtain ⟨k0, k1, k2, k3, k4, k5, k6, k7, k8, k9, k10⟩ := hx4.out.1.2
        go_wp2_with fail
        refine (at_ofU hx4 (HL.out.2 w4)).mono ?_
        rintro e w5 ⟨rfl, hx5⟩
        clear k0 k1 k2 k3 k4 k5 k6 k7 k8 k9 k10
        go_wp2_with fail
        refine (list_at hx5 m (by omega)).mono ?_
        rintro e w6 ⟨A6, c6, rfl, hx6⟩
        go_wp2_with fail
        refine (alive_at (Lib.hid hx6.out.1) G.out.2.2.2.2.2.2.2.2.2 hw).mono ?_
        rintro e w7 ⟨rfl, hx7⟩
        go_wp2_with fail
        go_ret
        exact ⟨rfl, hx7.out.1⟩
end Go.Proofs.YtcgbjodeklknoaaDoor.Vo
