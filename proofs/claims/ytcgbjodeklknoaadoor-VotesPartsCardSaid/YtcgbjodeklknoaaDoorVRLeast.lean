/- The walks of the reference's quorums, and of its smallest set. -/
import Derived.Test.YtcgbjodeklknoaaDoorVCounts
import Derived.Test.YtcgbjodeklknoaaDoorVLeast
namespace Go.Proofs.YtcgbjodeklknoaaDoor.Vo
set_option linter.unusedVariables false
set_option linter.unusedSimpArgs false
open Go.RowKit
open Go.Proofs.YtcgbjodeklknoaaDoor.Bit

theorem bit_out (a i : Nat) (ha : a < 18446744073709551616) (hi : 64 ≤ i) : a.testBit i = false := Nat.testBit_lt_two_pow (Nat.lt_of_lt_of_le ha (Nat.pow_le_pow_right (n := 2) (by decide) hi))
theorem rpart_calls (a b : Nat) (ha : a < 18446744073709551616) (hb : b < 18446744073709551616) (w : World) :
    Calls Tryd.prog 46 #[.int .u64 (a : Int), .int .u64 (b : Int)] w fun e w' => e = .returned (.bool (subB a b)) ∧ w = w' := by
  obtain ⟨r, hr⟩ : ∃ r, r = subB a b := ⟨_, rfl⟩
  rw [← hr]
  have HR := Lib.hid (And.intro hr (And.intro ha hb))
  clear hr ha hb
  go_enter Tryd.func46, Tryd.ntmps46
  go_wp2_with fail
  go_loop [5] (fun i => ∃ k : Nat, k ≤ 64 ∧ i = .int .i64 (k : Int) ∧ ∀ j, j < k → a.testBit j = true → b.testBit j = true) (fun i => 64 - (intOf i).toNat)
  case atStart => exact ⟨0, by omega, rfl, fun j h => by omega⟩
  case round =>
    obtain ⟨k, hk, rfl, hall⟩ := hrel
    have HA := Lib.hid hall
    clear hall
    by_cases hlt : k < 64
    · have h1 := refhas_calls a (k : Int) HR.out.2.1 (by omega) (by omega) w
      have h2 := refhas_calls b (k : Int) HR.out.2.2 (by omega) (by omega) w
      rw [hasF_nat a k hlt] at h1
      rw [hasF_nat b k hlt] at h2
      cases e1 : a.testBit k with
      | false =>
        rw [e1] at h1
        have HH := Lib.hid (And.intro h1 e1)
        clear h1 h2 e1
        go_wp2_with fail
        refine HH.out.1.mono ?_
        rintro e w' ⟨rfl, rfl⟩
        go_wp2_with fail
        go_round
        case rel => exact ⟨k + 1, by omega, by go_num, fun j hj ht => by
          by_cases h : j < k
          · exact HA.out j h ht
          · obtain rfl : j = k := by omega
            rw [HH.out.2] at ht; cases ht⟩
        case measure => (first | (simp [intOf]; done) | (simp [intOf]; omega))
      | true =>
        rw [e1] at h1
        cases e2 : b.testBit k with
        | true =>
          rw [e2] at h2
          have HH := Lib.hid (And.intro h1 (And.intro h2 e2))
          clear h1 h2 e1 e2
          go_wp2_with fail
          refine HH.out.1.mono ?_
          rintro e w' ⟨rfl, rfl⟩
          go_wp2_with fail
          refine HH.out.2.1.mono ?_
          rintro e w' ⟨rfl, rfl⟩
          go_wp2_with fail
          go_round
          case rel => exact ⟨k + 1, by omega, by go_num, fun j hj ht => by
            by_cases h : j < k
            · exact HA.out j h ht
            · obtain rfl : j = k := by omega
              exact HH.out.2.2⟩
          case measure => (first | (simp [intOf]; done) | (simp [intOf]; omega))
        | false =>
          rw [e2] at h2
          have HH := Lib.hid (And.intro h1 (And.intro h2 (And.intro e1 e2)))
          clear h1 h2 e1 e2
          go_wp2_with fail
          refine HH.out.1.mono ?_
          rintro e w' ⟨rfl, rfl⟩
          go_wp2_with fail
          refine HH.out.2.1.mono ?_
          rintro e w' ⟨rfl, rfl⟩
          go_wp2_with fail
          go_ret
          refine ⟨?_, rfl⟩
          have : subB a b = false := by
            cases h : subB a b with
            | false => rfl
            | true =>
              have := subB_iff.1 h k HH.out.2.2.1
              rw [HH.out.2.2.2] at this
              cases this
          rw [HR.out.1, this]
          rfl
    · obtain rfl : k = 64 := by omega
      go_wp2_with fail
      go_ret
      refine ⟨?_, rfl⟩
      have : subB a b = true := subB_iff.2 (fun i hi => by
        by_cases h : i < 64
        · exact HA.out i h hi
        · rw [bit_out a i HR.out.2.1 (by omega)] at hi; cases hi)
      rw [HR.out.1, this]
      rfl
/-- A list and one cell of it besides. -/
def BxL (w : World) (c : Cf) (x : Addr) (L : List Nat) (m y : Nat) (W : World) : Prop := Bx w c W ∧ RowI W (some x) L ∧ W.cell? (x.add m) = some (.int .i64 (y : Int))
theorem at_ofL {f : Nat} {args : Array Value} {v : Value} {w W : World} {c : Cf} {x : Addr} {L : List Nat} {m y : Nat} (h : Hid (BxL w c x L m y W)) (hc : Calls Tryd.prog f args W fun e w' => e = .returned v ∧ Below W.heap.size W w') :
    Calls Tryd.prog f args W fun e w' => e = .returned v ∧ Hid (BxL w c x L m y w') :=
  hc.mono fun _ _ ⟨he, hb⟩ => ⟨he, Lib.hid ⟨⟨h.out.1.1.trans (hb.mono h.out.1.1.size), h.out.1.2.below hb⟩, h.out.2.1.below hb, (hb.cell (World.block_lt_of_cell? W _ h.out.2.2)).trans h.out.2.2⟩⟩
set_option maxHeartbeats 2000000 in
set_option maxRecDepth 100000 in
theorem rquorum_calls (c : Cf) (hc : c.Ok) (want : Int) (h0 : -9223372036854775808 ≤ want) (h1 : want ≤ 9223372036854775807) (s : Nat) (hs : s < 256) (w : World) :
    Calls Tryd.prog 48 #[c.val, .int .i64 want, .int .u64 (s : Int)] w fun e w' => e = .returned (.bool (isQ c.V want s)) ∧ Below w.heap.size w w' := by
  have c1 := fun W => rvoters_calls c hc W
  have c2 := fun W => rof_calls c hc s (by omega) W
  have hvl := voters_lt64 c.V (by rw [Cf.len]; omega)
  have hq1 := @isQ_sub c.V want s
  have hq2 := @isQ_few c.V want s
  have hq3 := fun k => @isQ_more c.V want s k
  have hq4 := @isQ_yes c.V want s
  have hnle := of_le c.V hc.v s
  rw [Cf.len] at hnle
  obtain ⟨T, hT⟩ : ∃ T, T = voters c.V := ⟨_, rfl⟩
  rw [← hT] at c1 hvl hq1 hq4
  have c3 := fun W => rpart_calls s T (by omega) (by omega) W
  have how := fun y h64 h => of_without c.V s y (by omega) h64 h
  obtain ⟨n, hn⟩ : ∃ n, n = of c.V s := ⟨_, rfl⟩
  rw [← hn] at c2 hq2 hq3 hq4 hnle how
  obtain ⟨r, hr⟩ : ∃ r, r = isQ c.V want s := ⟨_, rfl⟩
  rw [← hr] at hq1 hq2 hq3 hq4 ⊢
  have G := Lib.hid (And.intro c1 (And.intro c2 (And.intro c3 (And.intro hq1 (And.intro hq2 (And.intro hq3 (And.intro hq4 (And.intro how (And.intro hc hs)))))))))
  have HX := Lib.hid (bx_new c w)
  clear c1 c2 c3 hq1 hq2 hq3 hq4 how hT hn hr hc hvl
  unfold Cf.val at G ⊢
  go_enter Tryd.func48, Tryd.ntmps48
  go_wp2_with fail
  generalize w.alloc (.cells #[.int .u32 (c.e : Int), .int .u8 (c.r : Int), .int .u8 (c.q : Int), .int .u8 (c.v0 : Int), .int .u8 (c.v1 : Int), .int .u8 (c.v2 : Int), .int .u8 (c.v3 : Int), .int .u8 (c.v4 : Int), .int .u8 (c.v5 : Int), .int .u8 (c.v6 : Int), .int .u8 (c.v7 : Int)] 25) = w1 at HX ⊢
  refine (at_of HX (G.out.1 w1)).mono ?_
  rintro e w2 ⟨rfl, hx⟩
  go_wp2_with fail
  refine (G.out.2.2.1 w2).mono ?_
  rintro e w' ⟨rfl, rfl⟩
  cases hsub : subB s T with
  | false =>
    have HQ := Lib.hid (G.out.2.2.2.1 hsub)
    clear hsub
    go_wp2_with fail
    go_ret
    exact ⟨by rw [HQ.out]; rfl, hx.out.1⟩
  | true =>
    have HSub := Lib.hid hsub
    clear hsub
    obtain ⟨k0, k1, k2, k3, k4, k5, k6, k7, k8, k9, k10⟩ := hx.out.2
    go_wp2_with fail
    refine (at_of hx (G.out.2.1 w2)).mono ?_
    rintro e w3 ⟨rfl, hx3⟩
    clear k0 k1 k2 k3 k4 k5 k6 k7 k8 k9 k10
    by_cases hfew : (n : Int) < want
    · have HQ := Lib.hid (G.out.2.2.2.2.1 hfew)
      go_wp2_with fail
      go_ret
      exact ⟨by rw [HQ.out]; rfl, hx3.out.1⟩
    · go_wp2_with fail
      refine (reflist_calls s (by omega) w3).mono ?_
      rintro e w4 ⟨v4, rfl, ho4, hb4⟩
      obtain ⟨A4, c4, rfl, hr4⟩ := own_ints ho4
      have hlen := len_elems s
      obtain ⟨L, hL⟩ : ∃ L, L = elems s := ⟨_, rfl⟩
      rw [← hL] at hr4 hlen ⊢
      have H4 := Lib.hid (And.intro (show Bx w c w4 from ⟨hx3.out.1.trans (hb4.mono hx3.out.1.size), hx3.out.2.below hb4⟩) (And.intro hr4 hL))
      clear ho4 hb4 hr4 hL hx hx3
      go_wp2_with fail
      go_loopw [8] (fun i wr => ∃ m : Nat, m ≤ L.length ∧ i = .int .i64 (m : Int) ∧ Hid (Bx w c wr ∧ RowI wr A4 L) ∧ ∀ p, p < m → ∀ h2 : p < L.length, (n : Int) - (c.V.getD L[p] 0 : Int) < want) (fun i _ => L.length - (intOf i).toNat)
      case atStart => exact ⟨0, by omega, rfl, Lib.hid ⟨H4.out.1, H4.out.2.1⟩, fun p h => by omega⟩
      case round =>
        obtain ⟨m, hm, rfl, hxr, hall⟩ := hrel
        have HA := Lib.hid hall
        clear hall
        by_cases hlt : m < L.length
        · obtain ⟨x, rfl, hcl⟩ : ∃ x, A4 = some x ∧ ∀ i : Nat, ∀ h : i < L.length, wr.cell? (x.add i) = some (.int .i64 (L[i] : Int)) := by
            rcases hxr.out.2 with h | h
            · rw [h] at hlt; simp at hlt
            · exact h
          have hcm := hcl m hlt
          have hmem : L[m] ∈ elems s := by rw [← H4.out.2.2]; exact List.getElem_mem hlt
          obtain ⟨y, hy⟩ : ∃ y, y = L[m] := ⟨_, rfl⟩
          rw [← hy] at hcm hmem
          have hy8 := elems_lt8 hs hmem
          have how := G.out.2.2.2.2.2.2.2.1 y (by omega) ((mem_elems s y).1 hmem).2
          have cwo := fun W => refwithout_calls s (y : Int) (by omega) (by omega) (by omega) W
          have cof := fun W => rof_calls c G.out.2.2.2.2.2.2.2.2.1 (withoutF s (y : Int)) (without_lt s _ (by omega)) W
          unfold Cf.val at cof
          obtain ⟨u, hu⟩ : ∃ u, u = withoutF s (y : Int) := ⟨_, rfl⟩
          rw [← hu] at how cwo cof
          obtain ⟨nw, hnw⟩ : ∃ z, z = of c.V u := ⟨_, rfl⟩
          rw [← hnw] at how cof
          have HY := Lib.hid (And.intro hy (And.intro hmem (And.intro cwo (And.intro cof how))))
          have hx : Hid (BxL w c x L m y wr) := Lib.hid ⟨hxr.out.1, hxr.out.2, hcm⟩
          have hxd : Hid (BxL w c x L m y wr.drew) := Lib.hid ⟨hxr.out.1.drew, hxr.out.2, hcm⟩
          have hb1 : (m : Int) < (L.length : Int) := by omega
          clear hcl hy hmem cwo cof hu hnw hcm
          by_cases hmore : want ≤ (nw : Int)
          · have hd : decide (want ≤ (nw : Int)) = true := decide_eq_true hmore
            have HQ := Lib.hid (G.out.2.2.2.2.2.1 y HY.out.2.1 (by have := HY.out.2.2.2.2; omega))
            go_wp2_with fail
            go_region_held3 (fun W => (W.cell? ⟨w.heap.size, 0, none⟩ = some (.int .u32 (c.e : Int)) ∧ W.cell? ⟨w.heap.size, 1, none⟩ = some (.int .u8 (c.r : Int)) ∧ W.cell? ⟨w.heap.size, 2, none⟩ = some (.int .u8 (c.q : Int)) ∧ W.cell? ⟨w.heap.size, 3, none⟩ = some (.int .u8 (c.v0 : Int)) ∧ W.cell? ⟨w.heap.size, 4, none⟩ = some (.int .u8 (c.v1 : Int)) ∧ W.cell? ⟨w.heap.size, 5, none⟩ = some (.int .u8 (c.v2 : Int)) ∧ W.cell? ⟨w.heap.size, 6, none⟩ = some (.int .u8 (c.v3 : Int)) ∧ W.cell? ⟨w.heap.size, 7, none⟩ = some (.int .u8 (c.v4 : Int)) ∧ W.cell? ⟨w.heap.size, 8, none⟩ = some (.int .u8 (c.v5 : Int)) ∧ W.cell? ⟨w.heap.size, 9, none⟩ = some (.int .u8 (c.v6 : Int)) ∧ W.cell? ⟨w.heap.size, 10, none⟩ = some (.int .u8 (c.v7 : Int))) ∧ W.cell? (x.add m) = some (.int .i64 (y : Int))) (first | exact ⟨hx.out.1.2, hx.out.2.2⟩) (first | (go_at_call 60; ((with_reducible refine (HY.out.2.2.1 _).mono ?_); rintro e w' ⟨rfl, rfl⟩)) | (go_at_call 16; ((with_reducible refine (at_ofL hxd (HY.out.2.2.2.1 _)).mono ?_); rintro e w' ⟨rfl, hx⟩)))
            go_wp2_with fail
            go_ret
            exact ⟨by rw [HQ.out]; rfl, hx.out.1.1⟩
          · have hd : decide (want ≤ (nw : Int)) = false := decide_eq_false hmore
            go_wp2_with fail
            go_region_held3 (fun W => (W.cell? ⟨w.heap.size, 0, none⟩ = some (.int .u32 (c.e : Int)) ∧ W.cell? ⟨w.heap.size, 1, none⟩ = some (.int .u8 (c.r : Int)) ∧ W.cell? ⟨w.heap.size, 2, none⟩ = some (.int .u8 (c.q : Int)) ∧ W.cell? ⟨w.heap.size, 3, none⟩ = some (.int .u8 (c.v0 : Int)) ∧ W.cell? ⟨w.heap.size, 4, none⟩ = some (.int .u8 (c.v1 : Int)) ∧ W.cell? ⟨w.heap.size, 5, none⟩ = some (.int .u8 (c.v2 : Int)) ∧ W.cell? ⟨w.heap.size, 6, none⟩ = some (.int .u8 (c.v3 : Int)) ∧ W.cell? ⟨w.heap.size, 7, none⟩ = some (.int .u8 (c.v4 : Int)) ∧ W.cell? ⟨w.heap.size, 8, none⟩ = some (.int .u8 (c.v5 : Int)) ∧ W.cell? ⟨w.heap.size, 9, none⟩ = some (.int .u8 (c.v6 : Int)) ∧ W.cell? ⟨w.heap.size, 10, none⟩ = some (.int .u8 (c.v7 : Int))) ∧ W.cell? (x.add m) = some (.int .i64 (y : Int))) (first | exact ⟨hx.out.1.2, hx.out.2.2⟩) (first | (go_at_call 60; ((with_reducible refine (HY.out.2.2.1 _).mono ?_); rintro e w' ⟨rfl, rfl⟩)) | (go_at_call 16; ((with_reducible refine (at_ofL hxd (HY.out.2.2.2.1 _)).mono ?_); rintro e w' ⟨rfl, hx⟩)))
            go_wp2_with fail
            go_roundw
            case rel => exact ⟨m + 1, by omega, by go_num, Lib.hid ⟨hx.out.1, hx.out.2.1⟩, fun p hp h2 => by
              by_cases h : p < m
              · exact HA.out p h h2
              · obtain rfl : p = m := by omega
                have := HY.out.2.2.2.2
                rw [HY.out.1] at this
                omega⟩
            case measure => (first | (simp [intOf]; done) | (simp [intOf]; omega))
        · obtain rfl : m = L.length := by omega
          have HQ := Lib.hid (G.out.2.2.2.2.2.2.1 HSub.out (by omega) (fun y hy => by
            rw [← H4.out.2.2] at hy
            obtain ⟨p, hp, rfl⟩ := List.mem_iff_getElem.1 hy
            exact HA.out p hp hp))
          go_wp2_with fail
          go_ret
          exact ⟨by rw [HQ.out]; rfl, hxr.out.1.1⟩
set_option maxHeartbeats 2000000 in
set_option maxRecDepth 100000 in
theorem rquorums_calls (c : Cf) (hc : c.Ok) (want : Int) (h0 : -9223372036854775808 ≤ want) (h1 : want ≤ 9223372036854775807) (w : World) :
    Calls Tryd.prog 30 #[c.val, .int .i64 want] w fun e w' => ∃ v, e = .returned v ∧ w'.ownsRow w.heap.size 35 1 v (qs c.V want).length (u64s (qs c.V want)) ∧ Below w.heap.size w w' := by
  obtain ⟨i0, hi, hz0, hz1, hz2⟩ := info_parts info64
  have cq := fun s hs W => rquorum_calls c hc want h0 h1 s hs W
  unfold Cf.val at cq
  have G := Lib.hid cq
  have HX := Lib.hid (bx_new c w)
  clear cq h0 h1
  unfold Cf.val
  go_enter Tryd.func30, Tryd.ntmps30
  go_wp2_with fail
  generalize hw1 : w.alloc (.cells #[.int .u32 (c.e : Int), .int .u8 (c.r : Int), .int .u8 (c.q : Int), .int .u8 (c.v0 : Int), .int .u8 (c.v1 : Int), .int .u8 (c.v2 : Int), .int .u8 (c.v3 : Int), .int .u8 (c.v4 : Int), .int .u8 (c.v5 : Int), .int .u8 (c.v6 : Int), .int .u8 (c.v7 : Int)] 25) = w1 at HX ⊢
  have hsz : w1.heap.size = w.heap.size + 1 := by rw [← hw1]; simp
  clear hw1
  go_loopw [5, 6] (fun v i wr => ∃ k : Nat, k ≤ 256 ∧ i = .int .u64 (k : Int) ∧ wr.ownsRow w1.heap.size 35 1 v (qUpto c.V want k).length (u64s (qUpto c.V want k)) ∧ Below w1.heap.size w1 wr) (fun _ i _ => 256 - (intOf i).toNat)
  case atStart => exact ⟨0, by omega, rfl, World.ownsRow_nil _ _ _ _, Below.refl _ _⟩
  case round =>
    obtain ⟨k, hk, rfl, hown, hbw⟩ := hrel
    have hz := hbw.size
    have HR := Lib.hid (And.intro hown hbw)
    clear hown hbw
    by_cases hlt : k < 256
    · have hS := HX.out.2.below HR.out.2
      have hq := G.out k hlt wr
      have hsucc := qUpto_succ c.V want k
      have hql := qUpto_len c.V want k
      obtain ⟨k0, k1, k2, k3, k4, k5, k6, k7, k8, k9, k10⟩ := hS
      cases hb : isQ c.V want k with
      | true =>
        rw [hb] at hq
        rw [hb, if_pos rfl] at hsucc
        have HQ := Lib.hid (And.intro hsucc (And.intro hql hq))
        clear hsucc hql hq hb
        go_wp2_with fail
        refine HQ.out.2.2.mono ?_
        rintro e w3 ⟨rfl, hb3⟩
        have hown3 := ownsRow_below HR.out.1 hb3
        have hcell : (w3.alloc (.cells #[.int .u64 (k : Int)] 35)).cell? ((⟨w3.heap.size, 0, none⟩ : Addr).add 0) = some (.int .u64 (k : Int)) := (cell_block (heap_alloc_new _ _)).trans rfl
        have hz3 := hb3.size
        have H3 := Lib.hid (And.intro hown3 (And.intro hb3 hcell))
        clear hown3 hb3 hcell k0 k1 k2 k3 k4 k5 k6 k7 k8 k9 k10
        go_wp2_with (at_builtin; refine wpList_append_own _ rfl (Operand.tmp 15) (Operand.tmp 17) 47 rfl w1.heap.size 35 i0 (.int .u64 0) 1 8 Tryd.underlying47 hi hz0 hz1 hz2 rfl (by omega) _ (qUpto c.V want k).length (u64s (qUpto c.V want k)) rfl (H3.out.1.alloc _) ⟨w3.heap.size, 0, none⟩ 1 1 [.int .u64 (k : Int)] rfl rfl (fun j u hu => by match j, hu with | 0, hu => (simp at hu; rw [← hu]; exact H3.out.2.2) | j + 1, hu => simp at hu) (by simp [Value.oneCell']) (by have := HQ.out.2.1; unfold maxLen; omega) (by have := HQ.out.2.1; omega) (by simp; omega) ?_; intro v' w6 hown' hgrow _)
        go_roundw
        case rel =>
          refine ⟨k + 1, by omega, by go_num, ?_, (HR.out.2.trans ((H3.out.2.1.trans ((below_alloc1 w3 _).mono H3.out.2.1.size)).mono HR.out.2.size)).grown hgrow (by simp; omega) (fun g hg => (World.ownsRow.lt HR.out.1 g hg).1)⟩
          rw [HQ.out.1, List.length_append, List.length_singleton]
          unfold u64s at hown' ⊢
          rw [List.map_append]
          exact hown'
        case measure => (first | (simp [intOf]; done) | (simp [intOf]; omega))
      | false =>
        rw [hb] at hq
        rw [hb, if_neg (by decide), List.append_nil] at hsucc
        have HQ := Lib.hid (And.intro hsucc hq)
        clear hsucc hql hq hb
        go_wp2_with fail
        refine HQ.out.2.mono ?_
        rintro e w3 ⟨rfl, hb3⟩
        have H3 := Lib.hid hb3
        clear hb3
        go_wp2_with fail
        go_roundw
        case rel => exact ⟨k + 1, by omega, by go_num, by rw [HQ.out.1]; exact ownsRow_below HR.out.1 H3.out, HR.out.2.trans (H3.out.mono HR.out.2.size)⟩
        case measure => (first | (simp [intOf]; done) | (simp [intOf]; omega))
    · obtain rfl : k = 256 := by omega
      go_wp2_with fail
      go_ret
      exact ⟨_, rfl, ownsRow_mono HR.out.1 HX.out.1.size, HX.out.1.trans (HR.out.2.mono HX.out.1.size)⟩
/-- The sets below k that do. -/
def sUpto (l : List Nat) (want : Int) (f k : Nat) : List Nat := (List.range k).filter (fun s => subB s (voters l) && subB s f && decide (want ≤ (of l s : Int)))
theorem sUpto_yes (l : List Nat) (want : Int) (f k : Nat) (h1 : subB k (voters l) = true) (h2 : subB k f = true) (h3 : want ≤ (of l k : Int)) : sUpto l want f (k + 1) = sUpto l want f k ++ [k] := by
  unfold sUpto
  rw [List.range_succ, List.filter_append]
  congr 1
  simp [h1, h2, h3]
theorem sUpto_no (l : List Nat) (want : Int) (f k : Nat) (h : subB k (voters l) = false ∨ subB k f = false ∨ (of l k : Int) < want) : sUpto l want f (k + 1) = sUpto l want f k := by
  unfold sUpto
  rw [List.range_succ, List.filter_append]
  have : [k].filter (fun s => subB s (voters l) && subB s f && decide (want ≤ (of l s : Int))) = [] := by
    rw [List.filter_eq_nil_iff]
    intro x hx
    rw [List.mem_singleton] at hx
    subst hx
    rcases h with h | h | h
    · simp [h]
    · simp [h]
    · simp; intro _ _; omega
  rw [this, List.append_nil]
/-- The best so far, as two variables hold it. -/
def Best (o : Option Nat) (b : Nat) (y : Bool) : Prop := (o = none ∧ b = 0 ∧ y = false) ∨ (o = some b ∧ y = true)
theorem best_leastF {l : List Nat} {want : Int} {f b : Nat} {y : Bool} (h : Best (pick (sUpto l want f 256)) b y) : leastF l want f = (b, y) := by
  have e : pick (sUpto l want f 256) = pick (qs (cz l f) want) := least_eq l f want
  rw [e] at h
  unfold leastF
  rcases h with ⟨h1, h2, h3⟩ | ⟨h1, h2⟩
  · rw [h1, h2, h3]
  · rw [h1, h2]
theorem pick_none {l : List Nat} (h : pick l = none) : l = [] := by
  cases l with
  | nil => rfl
  | cons x xs => cases h
theorem sUpto_lt {l : List Nat} {want : Int} {f k x : Nat} (h : x ∈ sUpto l want f k) : x < k := List.mem_range.1 (List.mem_filter.1 h).1
set_option maxHeartbeats 4000000 in
set_option maxRecDepth 100000 in
theorem rleast_calls (c : Cf) (hc : c.Ok) (want : Int) (h0 : -9223372036854775808 ≤ want) (h1 : want ≤ 9223372036854775807) (f : Nat) (hf : f < 18446744073709551616) (w : World) :
    Calls Tryd.prog 27 #[c.val, .int .i64 want, .int .u64 (f : Int)] w fun e w' => e = .returned (.tuple #[.int .u64 ((leastF c.V want f).1 : Int), .bool (leastF c.V want f).2]) ∧ Below w.heap.size w w' := by
  have c1 := fun W => rvoters_calls c hc W
  have c2 := fun s (hs : s < 256) W => rof_calls c hc s (by omega) W
  have hvl := voters_lt64 c.V (by rw [Cf.len]; omega)
  have hno := sUpto_no c.V want f
  have hyes := sUpto_yes c.V want f
  obtain ⟨T, hT⟩ : ∃ T, T = voters c.V := ⟨_, rfl⟩
  rw [← hT] at c1 hvl hno hyes
  have c3 := fun s (hs : s < 256) W => rpart_calls s T (by omega) (by omega) W
  have c4 := fun s (hs : s < 256) W => rpart_calls s f (by omega) hf W
  have hle := fun s => of_le c.V hc.v s
  have hbest := @best_leastF c.V want f
  obtain ⟨M, hM⟩ : ∃ M, M = leastF c.V want f := ⟨_, rfl⟩
  rw [← hM] at hbest ⊢
  have G := Lib.hid (And.intro c1 (And.intro c2 (And.intro c3 (And.intro c4 (And.intro hno (And.intro hyes (And.intro hle (fun b y => @hbest b y))))))))
  have HX := Lib.hid (bx_new c w)
  clear c1 c2 c3 c4 hno hyes hle hbest hT hM hc hvl hf
  unfold Cf.val at G ⊢
  go_enter Tryd.func27, Tryd.ntmps27
  go_wp2_with fail
  generalize w.alloc (.cells #[.int .u32 (c.e : Int), .int .u8 (c.r : Int), .int .u8 (c.q : Int), .int .u8 (c.v0 : Int), .int .u8 (c.v1 : Int), .int .u8 (c.v2 : Int), .int .u8 (c.v3 : Int), .int .u8 (c.v4 : Int), .int .u8 (c.v5 : Int), .int .u8 (c.v6 : Int), .int .u8 (c.v7 : Int)] 25) = w1 at HX ⊢
  go_loopw [8, 9, 10] (fun b y i wr => ∃ (k bn : Nat) (yb : Bool), k ≤ 256 ∧ i = .int .u64 (k : Int) ∧ b = .int .u64 (bn : Int) ∧ y = .bool yb ∧ Hid (Best (pick (sUpto c.V want f k)) bn yb) ∧ Hid (Bx w c wr)) (fun _ _ i _ => 256 - (intOf i).toNat)
  case atStart => exact ⟨0, 0, false, by omega, rfl, rfl, rfl, Lib.hid (.inl ⟨rfl, rfl, rfl⟩), HX⟩
  case round =>
    obtain ⟨k, bn, yb, hk, rfl, rfl, rfl, hbst, hx⟩ := hrel
    by_cases hlt : k < 256
    · obtain ⟨k0, k1, k2, k3, k4, k5, k6, k7, k8, k9, k10⟩ := hx.out.2
      go_wp2_with fail
      refine (at_of hx (G.out.1 wr)).mono ?_
      rintro e w2 ⟨rfl, hx2⟩
      clear k0 k1 k2 k3 k4 k5 k6 k7 k8 k9 k10
      go_wp2_with fail
      refine (G.out.2.2.1 k hlt w2).mono ?_
      rintro e w' ⟨rfl, rfl⟩
      cases hs1 : subB k T with
      | false =>
        have HN := Lib.hid (G.out.2.2.2.2.1 k (.inl hs1))
        clear hs1
        go_wp2_with fail
        go_roundw
        case rel => exact ⟨k + 1, bn, yb, by omega, by go_num, rfl, rfl, by rw [HN.out]; exact hbst, hx2⟩
        case measure => (first | (simp [intOf]; done) | (simp [intOf]; omega))
      | true =>
        have HS1 := Lib.hid hs1
        clear hs1
        go_wp2_with fail
        refine (G.out.2.2.2.1 k hlt w2).mono ?_
        rintro e w' ⟨rfl, rfl⟩
        cases hs2 : subB k f with
        | false =>
          have HN := Lib.hid (G.out.2.2.2.2.1 k (.inr (.inl hs2)))
          clear hs2
          go_wp2_with fail
          go_roundw
          case rel => exact ⟨k + 1, bn, yb, by omega, by go_num, rfl, rfl, by rw [HN.out]; exact hbst, hx2⟩
          case measure => (first | (simp [intOf]; done) | (simp [intOf]; omega))
        | true =>
          have HS2 := Lib.hid hs2
          clear hs2
          obtain ⟨k0, k1, k2, k3, k4, k5, k6, k7, k8, k9, k10⟩ := hx2.out.2
          have cof := G.out.2.1 k hlt w2
          have hnle := G.out.2.2.2.2.2.2.1 k
          have hno := G.out.2.2.2.2.1 k
          have hyes := G.out.2.2.2.2.2.1 k
          obtain ⟨n, hn⟩ : ∃ n, n = of c.V k := ⟨_, rfl⟩
          rw [← hn] at cof hnle hno hyes
          have HN := Lib.hid (And.intro cof (And.intro hno hyes))
          rw [Cf.len] at hnle
          clear cof hno hyes hn
          go_wp2_with fail
          refine (at_of hx2 HN.out.1).mono ?_
          rintro e w3 ⟨rfl, hx3⟩
          clear k0 k1 k2 k3 k4 k5 k6 k7 k8 k9 k10
          by_cases hfew : (n : Int) < want
          · have HM := Lib.hid (HN.out.2.1 (.inr (.inr hfew)))
            go_wp2_with fail
            go_roundw
            case rel => exact ⟨k + 1, bn, yb, by omega, by go_num, rfl, rfl, by rw [HM.out]; exact hbst, hx3⟩
            case measure => (first | (simp [intOf]; done) | (simp [intOf]; omega))
          · have HM := Lib.hid (HN.out.2.2 HS1.out HS2.out (by omega))
            cases yb with
            | false =>
              have hp : pick (sUpto c.V want f k) = none := by
                rcases hbst.out with ⟨h, _⟩ | ⟨_, h⟩
                · exact h
                · cases h
              have HP := Lib.hid (pick_none hp)
              clear hp
              go_wp2_with fail
              go_roundw
              case rel => exact ⟨k + 1, k, true, by omega, by go_num, rfl, rfl, Lib.hid (.inr ⟨by rw [HM.out, HP.out]; rfl, rfl⟩), hx3⟩
              case measure => (first | (simp [intOf]; done) | (simp [intOf]; omega))
            | true =>
              have hp : pick (sUpto c.V want f k) = some bn := by
                rcases hbst.out with ⟨_, _, h⟩ | ⟨h, _⟩
                · cases h
                · exact h
              have hbl := sUpto_lt (pick_mem hp)
              have hs := pick_snoc _ _ k hp
              rw [← HM.out] at hs
              have HP := Lib.hid (And.intro hp (And.intro hs hbl))
              have b1 := cnt_le k
              have b2 := cnt_le bn
              clear hp hs hbl
              go_wp2_with fail
              refine (reflist_calls k (by omega) w3).mono ?_
              rintro e w4 ⟨v4, rfl, ho4, hb4⟩
              obtain ⟨A4, c4, rfl, _⟩ := own_ints ho4
              have hx4 : Hid (Bx w c w4) := Lib.hid ⟨hx3.out.1.trans (hb4.mono hx3.out.1.size), hx3.out.2.below hb4⟩
              clear ho4 hb4
              go_wp2_with fail
              refine (reflist_calls bn (by have := HP.out.2.2; omega) w4).mono ?_
              rintro e w5 ⟨v5, rfl, ho5, hb5⟩
              obtain ⟨A5, c5, rfl, _⟩ := own_ints ho5
              have hx5 : Hid (Bx w c w5) := Lib.hid ⟨hx4.out.1.trans (hb5.mono hx4.out.1.size), hx4.out.2.below hb5⟩
              clear ho5 hb5
              change cnt k ≤ 64 at b1
              unfold cnt at b1 b2
              by_cases hcc : (elems k).length < (elems bn).length
              · go_wp2_with fail
                go_roundw
                case rel => exact ⟨k + 1, k, true, by omega, by go_num, rfl, rfl, Lib.hid (.inr ⟨by rw [HP.out.2.1, if_pos (show cnt k < cnt bn from hcc)], rfl⟩), hx5⟩
                case measure => (first | (simp [intOf]; done) | (simp [intOf]; omega))
              · go_wp2_with fail
                go_roundw
                case rel => exact ⟨k + 1, bn, true, by omega, by go_num, rfl, rfl, Lib.hid (.inr ⟨by rw [HP.out.2.1, if_neg (show ¬ cnt k < cnt bn from hcc)], rfl⟩), hx5⟩
                case measure => (first | (simp [intOf]; done) | (simp [intOf]; omega))
    · obtain rfl : k = 256 := by omega
      have HM := Lib.hid (G.out.2.2.2.2.2.2.2 bn yb hbst.out)
      go_wp2_with fail
      go_ret2
      exact ⟨by rw [HM.out]; rfl, hx.out.1⟩
end Go.Proofs.YtcgbjodeklknoaaDoor.Vo
