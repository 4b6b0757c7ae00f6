/- The walk of the quorums. -/
import Derived.Test.YtcgbjodeklknoaaDoorVRMay
import Derived.Deep.LoopGhost
namespace Go.Proofs.YtcgbjodeklknoaaDoor.Vo
set_option linter.unusedVariables false
set_option linter.unusedSimpArgs false
open Go.RowKit
open Go.Proofs.YtcgbjodeklknoaaDoor.Bit

theorem info64 : (Tryd.prog.info? 35).map (fun i => (i.zero, i.size, i.bytes)) = some (some (.int .u64 0), 1, 8) := by kernel_rfl
/-- Sets as cells. -/
def u64s (xs : List Nat) : List Value := xs.map fun x : Nat => .int .u64 (x : Int)
/-- The quorums below k. -/
def qUpto (l : List Nat) (want : Int) (k : Nat) : List Nat := (List.range k).filter (isQ l want)
theorem qUpto_succ (l : List Nat) (want : Int) (k : Nat) : qUpto l want (k + 1) = qUpto l want k ++ (if isQ l want k = true then [k] else []) := by
  unfold qUpto
  rw [List.range_succ, List.filter_append]
  cases h : isQ l want k <;> simp [h]
theorem qUpto_len (l : List Nat) (want : Int) (k : Nat) : (qUpto l want k).length ≤ k := by
  have := List.length_filter_le (isQ l want) (List.range k)
  rw [List.length_range] at this
  exact this
theorem andNot_nat (s v : Nat) (hs : s < 18446744073709551616) (hb : v < 18446744073709551616) : Go.bits .andNot .u64 (s : Int) (v : Int) = ((s - (s &&& v) : Nat) : Int) := by
  have h1 : (BitVec.ofInt 64 (s : Int)).toNat = s := by
    rw [BitVec.ofInt_natCast, BitVec.toNat_ofNat]; exact Nat.mod_eq_of_lt (by omega)
  have h2 : (BitVec.ofInt 64 (v : Int)).toNat = v := by
    rw [BitVec.ofInt_natCast, BitVec.toNat_ofNat]; exact Nat.mod_eq_of_lt (by omega)
  show IntKind.u64.wrap ((BitVec.ofInt 64 (s : Int) &&& ~~~ BitVec.ofInt 64 (v : Int)).toNat : Int) = _
  have hle : s &&& v ≤ s := Nat.and_le_left
  have key : (BitVec.ofInt 64 (s : Int) &&& ~~~ BitVec.ofInt 64 (v : Int)).toNat = s - (s &&& v) := by
    have e1 := bv_apart (BitVec.ofInt 64 (s : Int)) (BitVec.ofInt 64 (v : Int))
    have e2 := BitVec.add_eq_or_of_and_eq_zero _ _ e1
    have e3 := bv_join (BitVec.ofInt 64 (s : Int)) (BitVec.ofInt 64 (v : Int))
    rw [e3] at e2
    have e4 := congrArg BitVec.toNat e2
    have e5 : (BitVec.ofInt 64 (s : Int) &&& BitVec.ofInt 64 (v : Int)).toNat = s &&& v := by rw [BitVec.toNat_and, h1, h2]
    have e6 : (BitVec.ofInt 64 (s : Int) &&& ~~~ BitVec.ofInt 64 (v : Int)).toNat ≤ s := by rw [BitVec.toNat_and, h1]; exact Nat.and_le_left
    rw [BitVec.toNat_add, e5, h1] at e4
    skip
    omega
  rw [key, Bit.wrap_u64]
  skip
  omega
theorem andNot_part (s v : Nat) (hs : s < 18446744073709551616) (hv : v < 18446744073709551616) : (Go.bits .andNot .u64 (s : Int) (v : Int) != 0) = !subB s v := by
  have e := andNot_nat s v hs hv
  rw [e]
  unfold subB
  have hle : s &&& v ≤ s := Nat.and_le_left
  by_cases h : s &&& v = s
  · rw [decide_eq_true h, h]; simp
  · rw [decide_eq_false h, Bool.not_false, bne_iff_ne]; omega
theorem elems_lt8 {s x : Nat} (hs : s < 256) (hx : x ∈ elems s) : x < 8 := by
  have hb := ((mem_elems s x).1 hx).2
  by_cases h : x < 8
  · exact h
  · have : s.testBit x = false := Nat.testBit_lt_two_pow (Nat.lt_of_lt_of_le (show s < 2 ^ 8 from hs) (Nat.pow_le_pow_right (by decide) (by omega)))
    rw [this] at hb
    cases hb
theorem isQ_sub {l : List Nat} {want : Int} {s : Nat} (h : subB s (voters l) = false) : isQ l want s = false := by unfold isQ suff; rw [h]; rfl
theorem isQ_few {l : List Nat} {want : Int} {s : Nat} (h : (of l s : Int) < want) : isQ l want s = false := by
  unfold isQ suff
  rw [decide_eq_false (by omega)]
  simp
theorem isQ_more {l : List Nat} {want : Int} {s k : Nat} (hk : k ∈ elems s) (h : want ≤ (of l s : Int) - (l.getD k 0 : Int)) : isQ l want s = false := by
  unfold isQ
  have : (elems s).all (fun k => decide ((of l s : Int) - (l.getD k 0 : Int) < want)) = false := by
    rw [List.all_eq_false]
    exact ⟨k, hk, by rw [decide_eq_false (by omega)]; decide⟩
  rw [this, Bool.and_false]
theorem isQ_yes {l : List Nat} {want : Int} {s : Nat} (h1 : subB s (voters l) = true) (h2 : want ≤ (of l s : Int)) (h : ∀ k ∈ elems s, (of l s : Int) - (l.getD k 0 : Int) < want) : isQ l want s = true := by
  unfold isQ suff
  rw [h1, decide_eq_true h2, List.all_eq_true.2 (fun k hk => decide_eq_true (h k hk))]
  rfl
theorem ownsRow_mono {w : World} {base base' : Nat} {E : TypeId} {v : Value} {n : Nat} {xs : List Value} (h : w.ownsRow base E 1 v n xs) (hb : base' ≤ base) : w.ownsRow base' E 1 v n xs := by
  rcases h with ⟨h0, h | ⟨g, cap, cur, h1, h2, h3⟩⟩
  · exact ⟨h0, .inl h⟩
  · exact ⟨h0, .inr ⟨g, cap, cur, h1, Nat.le_trans hb h2, h3⟩⟩
theorem ownsRow_below {w w' : World} {base : Nat} {E : TypeId} {v : Value} {n : Nat} {xs : List Value} (h : w.ownsRow base E 1 v n xs) (hb : Below w.heap.size w w') : w'.ownsRow base E 1 v n xs :=
  h.kept (row := none) ⟨hb.os, hb.tape, hb.output, hb.size, fun i hi _ => hb.block i hi⟩ (by cases v.ownBlock <;> simp)
set_option maxHeartbeats 4000000 in
set_option maxRecDepth 100000 in
theorem vquorums_calls (c : Cf) (hc : c.Ok) (want : Int) (h0 : -9223372036854775808 ≤ want) (h1 : want ≤ 9223372036854775807) (w : World) (hT : TabAt 0 Lib.deBruijn64tab w) (hw : 0 < w.heap.size) :
    Calls Tryd.prog 29 #[c.val, .int .i64 want] w fun e w' => ∃ v, e = .returned v ∧ w'.ownsRow w.heap.size 35 1 v (qs c.V want).length (u64s (qs c.V want)) ∧ Below w.heap.size w w' := by
  obtain ⟨i0, hi, hz0, hz1, hz2⟩ := info_parts info64
  have HG := Lib.hid (And.intro h0 (And.intro h1 (And.intro hT hc)))
  have hv := vvoters_calls c hc (w.alloc (.cells #[.int .u32 (c.e : Int), .int .u8 (c.r : Int), .int .u8 (c.q : Int), .int .u8 (c.v0 : Int), .int .u8 (c.v1 : Int), .int .u8 (c.v2 : Int), .int .u8 (c.v3 : Int), .int .u8 (c.v4 : Int), .int .u8 (c.v5 : Int), .int .u8 (c.v6 : Int), .int .u8 (c.v7 : Int)] 25))
  obtain ⟨vt, hvt⟩ : ∃ vt, vt = voters c.V := ⟨_, rfl⟩
  rw [← hvt] at hv
  have HV := Lib.hid hv
  have HB := Lib.hid (And.intro (below_box c w) (boxS_new c w))
  have hvt8 := voters_lt64 c.V (by rw [Cf.len]; omega)
  rw [← hvt] at hvt8
  have HT := Lib.hid hvt
  clear h0 h1 hT hc hv hvt
  unfold Cf.val
  go_enter Tryd.func29, Tryd.ntmps29
  go_wp2_with fail
  go_step3
  go_wp2_with fail
  generalize w.alloc (.cells #[.int .u32 (c.e : Int), .int .u8 (c.r : Int), .int .u8 (c.q : Int), .int .u8 (c.v0 : Int), .int .u8 (c.v1 : Int), .int .u8 (c.v2 : Int), .int .u8 (c.v3 : Int), .int .u8 (c.v4 : Int), .int .u8 (c.v5 : Int), .int .u8 (c.v6 : Int), .int .u8 (c.v7 : Int)] 25) = w1 at HB HV ⊢
  refine HV.out.mono ?_
  rintro e w2 ⟨rfl, hb⟩
  have H2 := Lib.hid (And.intro (HB.out.1.trans (hb.mono HB.out.1.size)) (HB.out.2.below hb))
  clear hb
  go_wp2_with fail
  go_step3
  go_wp2_with fail
  go_loopg [5, 14] 256 (fun g v i wr => ∃ k : Nat, k + g = 256 ∧ i = .int .i64 (k : Int) ∧ wr.ownsRow w2.heap.size 35 1 v (qUpto c.V want k).length (u64s (qUpto c.V want k)) ∧ Below w2.heap.size w2 wr)
  case atStart => exact ⟨0, rfl, rfl, World.ownsRow_nil _ _ _ _, Below.refl _ _⟩
  case round =>
    obtain ⟨k, hkg, rfl, hown, hbw⟩ := hrel
    have hz := hbw.size
    have HR := Lib.hid (And.intro hown hbw)
    clear hown hbw
    by_cases hlt : k < 256
    · obtain ⟨og, hog⟩ : ∃ og, og + 1 = gk := ⟨gk - 1, by omega⟩
      have HO := Lib.hid hog
      clear hog
      have hS := H2.out.2.below HR.out.2
      have hof := vof_calls c HG.out.2.2.2 k (by omega) wr
      have hnle := of_le c.V HG.out.2.2.2.v k
      rw [Cf.len] at hnle
      obtain ⟨n, hn⟩ : ∃ n, n = of c.V k := ⟨_, rfl⟩
      rw [← hn] at hof hnle
      have HN := Lib.hid (And.intro hn hof)
      clear hn hof
      have hand := andNot_part k vt (by omega) (by omega)
      have hconv : IntKind.u64.wrap (k : Int) = (k : Int) := by rw [Bit.wrap_u64]; omega
      obtain ⟨k0, k1, k2, k3, k4, k5, k6, k7, k8, k9, k10⟩ := hS
      have hsucc := qUpto_succ c.V want k
      have HQ := Lib.hid hsucc
      clear hsucc
      cases hsub : subB k vt with
      | false =>
        rw [hsub, Bool.not_false] at hand
        have hq : isQ c.V want k = false := isQ_sub (by rw [← HT.out]; exact hsub)
        have HQ2 := Lib.hid hq
        clear hq hsub
        go_wp2_with fail
        refine HN.out.2.mono ?_
        rintro e w3 ⟨rfl, hb3⟩
        have H3 := Lib.hid hb3
        clear hb3 k0 k1 k2 k3 k4 k5 k6 k7 k8 k9 k10
        go_wp2_with fail
        go_roundg og
        case measure => have := HO.out; omega
        case rel => exact ⟨k + 1, by have := HO.out; omega, by go_num, by rw [HQ.out, HQ2.out, if_neg (by decide), List.append_nil]; exact ownsRow_below HR.out.1 H3.out, HR.out.2.trans (H3.out.mono HR.out.2.size)⟩
      | true =>
        rw [hsub, Bool.not_true] at hand
        by_cases hfew : (n : Int) < want
        · have hq : isQ c.V want k = false := isQ_few (by rw [← HN.out.1]; exact hfew)
          have HQ2 := Lib.hid hq
          clear hq hsub
          go_wp2_with fail
          refine HN.out.2.mono ?_
          rintro e w3 ⟨rfl, hb3⟩
          have H3 := Lib.hid hb3
          clear hb3 k0 k1 k2 k3 k4 k5 k6 k7 k8 k9 k10
          go_wp2_with fail
          go_roundg og
          case measure => have := HO.out; omega
          case rel => exact ⟨k + 1, by have := HO.out; omega, by go_num, by rw [HQ.out, HQ2.out, if_neg (by decide), List.append_nil]; exact ownsRow_below HR.out.1 H3.out, HR.out.2.trans (H3.out.mono HR.out.2.size)⟩
        · have HSub := Lib.hid hsub
          clear hsub
          go_wp2_with fail
          refine HN.out.2.mono ?_
          rintro e w3 ⟨rfl, hb3⟩
          have hb13 := H2.out.1.trans ((HR.out.2.trans (hb3.mono HR.out.2.size)).mono H2.out.1.size)
          have H3 := Lib.hid (And.intro hb3 (And.intro hb13 ((H2.out.2.below HR.out.2).below hb3)))
          clear hb3 hb13 k0 k1 k2 k3 k4 k5 k6 k7 k8 k9 k10
          go_wp2_with fail
          refine (list_calls k (by omega) w3 (tab_below HG.out.2.2.1 H3.out.2.1 hw) (by have := H3.out.2.1.size; omega)).mono ?_
          rintro e w4 ⟨v4, rfl, ho4, hb4⟩
          obtain ⟨A4, c4, rfl, hr4⟩ := own_ints ho4
          have hlen := len_elems k
          obtain ⟨L, hL⟩ : ∃ L, L = elems k := ⟨_, rfl⟩
          rw [← hL] at hr4 hlen ⊢
          have hb14 := H3.out.1.trans (hb4.mono H3.out.1.size)
          have H4 := Lib.hid (And.intro hb14 (And.intro hr4 (And.intro (H3.out.2.2.below hb4) hL)))
          clear ho4 hb4 hb14 hr4 hL
          go_wp2_with fail
          go_loopg [34] L.length (fun g j w5 => ∃ m : Nat, m + g = L.length ∧ j = .int .i64 (m : Int) ∧ w4 = w5 ∧ ∀ p, ∀ h : p < m, ∀ h2 : p < L.length, (n : Int) - (c.V.getD L[p] 0 : Int) < want)
          case atStart => exact ⟨0, by omega, rfl, rfl, fun p h => by omega⟩
          case round =>
            obtain ⟨m, hmg, rfl, rfl, hall⟩ := hrel
            have HA := Lib.hid hall
            clear hall
            by_cases hm : m < L.length
            · obtain ⟨x, rfl, hc⟩ : ∃ x, A4 = some x ∧ ∀ i : Nat, ∀ h : i < L.length, w4.cell? (x.add i) = some (.int .i64 (L[i] : Int)) := by
                rcases H4.out.2.1 with h | h
                · rw [h] at hm; simp at hm
                · exact h
              have hcm := hc m hm
              have hmem : L[m] ∈ elems k := by rw [← H4.out.2.2.2]; exact List.getElem_mem hm
              obtain ⟨y, hy⟩ : ∃ y, y = L[m] := ⟨_, rfl⟩
              rw [← hy] at hcm hmem
              have hy8 := elems_lt8 hlt hmem
              have hcv := H4.out.2.2.1.vote y hy8
              have hvb := HG.out.2.2.2.get y
              obtain ⟨v, hv⟩ : ∃ v, v = c.V.getD y 0 := ⟨_, rfl⟩
              rw [← hv] at hcv hvb
              have HY := Lib.hid (And.intro hy (And.intro hmem hv))
              clear hc hy hmem hv
              by_cases hmore : want ≤ (n : Int) - (v : Int)
              · have hq : isQ c.V want k = false := isQ_more HY.out.2.1 (by rw [← HN.out.1, ← HY.out.2.2]; exact hmore)
                have HQ2 := Lib.hid hq
                clear hq
                go_wp2_with fail
                go_roundg og
                case measure => have := HO.out; omega
                case rel => exact ⟨k + 1, by have := HO.out; omega, by go_num, by rw [HQ.out, HQ2.out, if_neg (by decide), List.append_nil]; exact ownsRow_below HR.out.1 H4.out.1, HR.out.2.trans (H4.out.1.mono HR.out.2.size)⟩
              · go_wp2_with fail
                go_roundg (gk - 1)
                case measure => omega
                case rel => exact ⟨m + 1, by omega, by go_num, rfl, fun p hp h2 => by
                  by_cases h : p < m
                  · exact HA.out p h h2
                  · obtain rfl : p = m := by omega
                    have := HY.out.2.2
                    rw [HY.out.1] at this
                    rw [← this]; omega⟩
            · obtain rfl : m = L.length := by omega
              have hq : isQ c.V want k = true := isQ_yes (by rw [← HT.out]; exact HSub.out) (by rw [← HN.out.1]; omega) (fun y hy => by
                rw [← H4.out.2.2.2] at hy
                obtain ⟨p, hp, rfl⟩ := List.mem_iff_getElem.1 hy
                rw [← HN.out.1]
                exact HA.out p hp hp)
              have hql := qUpto_len c.V want k
              have hcell : (w4.alloc (.cells #[.int .u64 (k : Int)] 35)).cell? ((⟨w4.heap.size, 0, none⟩ : Addr).add 0) = some (.int .u64 (k : Int)) := (cell_block (heap_alloc_new _ _)).trans rfl
              have HQ2 := Lib.hid (And.intro hq (And.intro hql (And.intro hcell (ownsRow_below HR.out.1 H4.out.1))))
              have hz4 := H4.out.1.size
              clear hq hql hcell
              go_wp2_with (at_builtin; refine wpList_append_own _ rfl (Operand.tmp 48) (Operand.tmp 50) 47 rfl w2.heap.size 35 i0 (.int .u64 0) 1 8 Tryd.underlying47 hi hz0 hz1 hz2 rfl (by omega) _ (qUpto c.V want k).length (u64s (qUpto c.V want k)) rfl (HQ2.out.2.2.2.alloc _) ⟨w4.heap.size, 0, none⟩ 1 1 [.int .u64 (k : Int)] rfl rfl (fun j u hu => by match j, hu with | 0, hu => (simp at hu; rw [← hu]; exact HQ2.out.2.2.1) | j + 1, hu => simp at hu) (by simp [Value.oneCell']) (by have := HQ2.out.2.1; unfold maxLen; omega) (by have := HQ2.out.2.1; omega) (by simp; omega) ?_; intro v' w6 hown' hgrow _)
              go_roundg og
              case measure => have := HO.out; omega
              case rel =>
                refine ⟨k + 1, by have := HO.out; omega, by go_num, ?_, (HR.out.2.trans ((H4.out.1.trans ((below_alloc1 w4 _).mono H4.out.1.size)).mono HR.out.2.size)).grown hgrow (by simp; omega) (fun g hg => (World.ownsRow.lt HR.out.1 g hg).1)⟩
                rw [HQ.out, HQ2.out.1, if_pos rfl, List.length_append, List.length_singleton]
                unfold u64s at hown' ⊢
                rw [List.map_append]
                exact hown'
    · obtain rfl : k = 256 := by omega
      go_wp2_with fail
      rw [Exit.noGoto_ret]
      go_ret
      exact ⟨_, rfl, ownsRow_mono HR.out.1 H2.out.1.size, H2.out.1.trans (HR.out.2.mono H2.out.1.size)⟩
end Go.Proofs.YtcgbjodeklknoaaDoor.Vo
