/- The walk of the smallest set that has so many votes. -/
import Derived.Test.YtcgbjodeklknoaaDoorVAlive
namespace Go.Proofs.YtcgbjodeklknoaaDoor.Vo
set_option linter.unusedVariables false
set_option linter.unusedSimpArgs false
open Go.RowKit
open Go.Proofs.YtcgbjodeklknoaaDoor.Bit

theorem pick_snoc (l : List Nat) (m y : Nat) (h : pick l = some m) : pick (l ++ [y]) = some (if cnt y < cnt m then y else m) := by
  cases l with
  | nil => cases h
  | cons x xs =>
    unfold pick at h ⊢
    rw [List.cons_append]
    simp only [Option.some.injEq] at h ⊢
    rw [List.foldl_append, h]
    rfl
theorem pick_some (l : List Nat) (h : 0 < l.length) : ∃ m, pick l = some m := by
  cases l with
  | nil => simp at h
  | cons x xs => exact ⟨_, rfl⟩
theorem pick_mem {l : List Nat} {m : Nat} (h : pick l = some m) : m ∈ l := by
  obtain ⟨A, B, e, _⟩ := pick_first h
  rw [e]; simp
theorem cnt_le (s : Nat) : cnt s ≤ 64 := len_elems s
theorem cmp_calls (a b : Nat) (ha : a < 18446744073709551616) (hb : b < 18446744073709551616) (w : World) :
    Calls Tryd.prog 44 #[.int .u64 (a : Int), .int .u64 (b : Int)] w fun e w' => e = .returned (.int .i64 ((cnt a : Int) - (cnt b : Int))) ∧ w = w' := by
  have h1 := cnt_le a
  have h2 := cnt_le b
  have c1 := count_calls a ha w
  have c2 := count_calls b hb w
  change Calls _ _ _ w fun e w' => e = .returned (.int .i64 ((cnt a : Nat) : Int)) ∧ w = w' at c1
  change Calls _ _ _ w fun e w' => e = .returned (.int .i64 ((cnt b : Nat) : Int)) ∧ w = w' at c2
  obtain ⟨x, hx⟩ : ∃ x, x = cnt a := ⟨_, rfl⟩
  obtain ⟨y, hy⟩ : ∃ x, x = cnt b := ⟨_, rfl⟩
  rw [← hx] at c1 h1 ⊢
  rw [← hy] at c2 h2 ⊢
  have G := Lib.hid (And.intro c1 c2)
  clear c1 c2 hx hy
  go_enter Tryd.func44, Tryd.ntmps44
  go_wp2_with fail
  refine G.out.1.mono ?_
  rintro e w' ⟨rfl, rfl⟩
  go_wp2_with fail
  refine G.out.2.mono ?_
  rintro e w' ⟨rfl, rfl⟩
  go_wp2_with fail
  go_ret
  exact ⟨rfl, rfl⟩
theorem minfunc_calls (A : Option Addr) (cap : Nat) (xs : List Nat) (hxs : ∀ x ∈ xs, x < 18446744073709551616) (hn : 0 < xs.length) (hm : xs.length ≤ 9223372036854775807) (w : World) (hr : RowU w A xs) :
    Calls Tryd.prog 43 #[.slice A xs.length cap, .func (.func 44) #[] #[]] w fun e w' => ∃ m : Nat, e = .returned (.int .u64 (m : Int)) ∧ pick xs = some m ∧ w = w' := by
  obtain ⟨ad, rfl, hc⟩ : ∃ x, A = some x ∧ ∀ i : Nat, ∀ h : i < xs.length, w.cell? (x.add i) = some (.int .u64 (xs[i] : Int)) := by
    rcases hr with h | h
    · rw [h] at hn; simp at hn
    · exact h
  have h0 : w.cell? ad = some (.int .u64 (xs[0] : Int)) := by simpa [Addr.add] using hc 0 hn
  have HC := Lib.hid (And.intro hc hxs)
  clear hc hr hxs
  have h1 : (1 : Int) ≤ (xs.length : Int) := by omega
  go_enter Tryd.func43, Tryd.ntmps43
  go_wp2_with fail
  go_loop [5, 6] (fun n i => ∃ k : Nat, 1 ≤ k ∧ k ≤ xs.length ∧ i = .int .i64 (k : Int) ∧ ∃ m : Nat, n = .int .u64 (m : Int) ∧ pick (xs.take k) = some m) (fun _ i => xs.length - (intOf i).toNat)
  case atStart =>
    refine ⟨1, by omega, by omega, rfl, xs[0], rfl, ?_⟩
    rw [List.take_succ_eq_append_getElem hn]
    rfl
  case round =>
    obtain ⟨k, hk1, hk, rfl, m, rfl, hp⟩ := hrel
    by_cases hlt : k < xs.length
    · have hck := HC.out.1 k hlt
      have hs := pick_snoc (xs.take k) m xs[k] hp
      rw [← List.take_succ_eq_append_getElem hlt] at hs
      have hmm : m ∈ xs := List.take_subset _ _ (pick_mem hp)
      have hcmp := cmp_calls xs[k] m (HC.out.2 _ (List.getElem_mem hlt)) (HC.out.2 _ hmm) w
      obtain ⟨y, hy⟩ : ∃ y, y = xs[k] := ⟨_, rfl⟩
      rw [← hy] at hck hs hcmp
      have b1 := cnt_le y
      have b2 := cnt_le m
      obtain ⟨p, hp1⟩ : ∃ p, p = cnt y := ⟨_, rfl⟩
      obtain ⟨q, hp2⟩ : ∃ p, p = cnt m := ⟨_, rfl⟩
      rw [← hp1] at hcmp hs b1
      rw [← hp2] at hcmp hs b2
      have HP := Lib.hid (And.intro hs hcmp)
      clear hs hcmp hp1 hp2 hy hmm hp
      by_cases hpq : p < q
      · have hd : decide ((p : Int) - (q : Int) < 0) = true := decide_eq_true (by omega)
        go_wp2_with fail
        refine HP.out.2.mono ?_
        rintro e w' ⟨rfl, rfl⟩
        go_wp2_with fail
        go_round
        case rel => exact ⟨k + 1, by omega, by omega, by go_num, y, rfl, by rw [HP.out.1, if_pos hpq]⟩
        case measure => (first | (simp [intOf]; done) | (simp [intOf]; omega))
      · have hd : decide ((p : Int) - (q : Int) < 0) = false := decide_eq_false (by omega)
        go_wp2_with fail
        refine HP.out.2.mono ?_
        rintro e w' ⟨rfl, rfl⟩
        go_wp2_with fail
        go_round
        case rel => exact ⟨k + 1, by omega, by omega, by go_num, m, rfl, by rw [HP.out.1, if_neg hpq]⟩
        case measure => (first | (simp [intOf]; done) | (simp [intOf]; omega))
    · obtain rfl : k = xs.length := by omega
      have HP := Lib.hid hp
      clear hp
      go_wp2_with fail
      go_ret
      refine ⟨m, rfl, ?_, rfl⟩
      have := HP.out
      rw [List.take_length] at this
      exact this
/-- A configuration whose first k votes are taken from those who may not be taken. -/
def zf (f k i v : Nat) : Nat := if i < k ∧ f.testBit i = false then 0 else v
def czC (c : Cf) (f k : Nat) : Cf := ⟨c.e, c.r, c.q, zf f k 0 c.v0, zf f k 1 c.v1, zf f k 2 c.v2, zf f k 3 c.v3, zf f k 4 c.v4, zf f k 5 c.v5, zf f k 6 c.v6, zf f k 7 c.v7⟩
theorem czC_zero (c : Cf) (f : Nat) : czC c f 0 = c := by simp [czC, zf]
theorem czC_V (c : Cf) (f : Nat) : (czC c f 8).V = cz c.V f := by
  have h : ∀ i v, i < 8 → zf f 8 i v = if f.testBit i = true then v else 0 := by
    intro i v hi
    unfold zf
    cases hb : f.testBit i
    · simp [hi]
    · simp
  show [zf f 8 0 c.v0, zf f 8 1 c.v1, zf f 8 2 c.v2, zf f 8 3 c.v3, zf f 8 4 c.v4, zf f 8 5 c.v5, zf f 8 6 c.v6, zf f 8 7 c.v7] = _
  rw [h 0 _ (by omega), h 1 _ (by omega), h 2 _ (by omega), h 3 _ (by omega), h 4 _ (by omega), h 5 _ (by omega), h 6 _ (by omega), h 7 _ (by omega)]
  rfl
theorem czC_ok {c : Cf} (h : c.Ok) (f k : Nat) : (czC c f k).Ok := by
  have hz : ∀ i v, v < 256 → zf f k i v < 256 := by intro i v hv; unfold zf; split <;> omega
  refine ⟨h.e, h.r, h.q, ?_⟩
  intro x hx
  simp only [czC, Cf.V, List.mem_cons, List.not_mem_nil, or_false] at hx
  rcases hx with rfl | rfl | rfl | rfl | rfl | rfl | rfl | rfl <;> exact hz _ _ (h.v _ (by simp [Cf.V]))
theorem zf_same (f k i v : Nat) (h : f.testBit k = true) : zf f (k + 1) i v = zf f k i v := by
  unfold zf
  by_cases hi : i = k
  · subst hi; rw [h]; simp
  · have : (i < k + 1) ↔ (i < k) := by omega
    simp only [this]
theorem zf_other (f k i v : Nat) (h : i ≠ k) : zf f (k + 1) i v = zf f k i v := by
  unfold zf
  have : (i < k + 1) ↔ (i < k) := by omega
  simp only [this]
theorem zf_new (f k v : Nat) (h : f.testBit k = false) : zf f (k + 1) k v = 0 := by
  unfold zf; rw [if_pos ⟨by omega, h⟩]
theorem czC_same (c : Cf) (f k : Nat) (h : f.testBit k = true) : czC c f (k + 1) = czC c f k := by
  unfold czC
  simp only [zf_same f k _ _ h]
theorem czC_set (c : Cf) (f k : Nat) (hk : k < 8) (h : f.testBit k = false) : (czC c f k).cells.toArray.setIfInBounds (3 + k) (.int .u8 0) = (czC c f (k + 1)).cells.toArray := by
  rcases lt8 hk with rfl | rfl | rfl | rfl | rfl | rfl | rfl | rfl <;> simp [czC, Cf.cells, zf, h]
theorem block_set {w : World} {g i : Nat} {cs : Array Value} {t : TypeId} {fr : Nat × Nat} (h : w.heap[g]? = some (.cells cs t fr)) (v : Value) : (w.setCell ⟨g, i, none⟩ v).heap[g]? = some (.cells (cs.setIfInBounds i v) t fr) := by
  rw [setCell_eq_setRow w g i cs t fr v h]
  exact setRow_heap w g _ _ t _ h
/-- The smallest set, and whether there is one. -/
def leastF (l : List Nat) (want : Int) (f : Nat) : Nat × Bool := match pick (qs (cz l f) want) with
  | some m => (m, true)
  | none => (0, false)
theorem qs_len (l : List Nat) (want : Int) : (qs l want).length ≤ 256 := by
  have := List.length_filter_le (isQ l want) (List.range 256)
  rw [List.length_range] at this
  exact this
theorem qs_lt {l : List Nat} {want : Int} {x : Nat} (h : x ∈ qs l want) : x < 256 := by
  unfold qs at h
  exact List.mem_range.1 (List.mem_filter.1 h).1
set_option maxHeartbeats 2000000 in
set_option maxRecDepth 100000 in
theorem vleast_calls (c : Cf) (hc : c.Ok) (want : Int) (h0 : -9223372036854775808 ≤ want) (h1 : want ≤ 9223372036854775807) (f : Nat) (hf : f < 18446744073709551616) (w : World) (hT : TabAt 0 Lib.deBruijn64tab w) (hw : 0 < w.heap.size) :
    Calls Tryd.prog 26 #[c.val, .int .i64 want, .int .u64 (f : Int)] w fun e w' => e = .returned (.tuple #[.int .u64 ((leastF c.V want f).1 : Int), .bool (leastF c.V want f).2]) ∧ Below w.heap.size w w' := by
  have hA : (w.alloc (.cells #[.int .u32 (c.e : Int), .int .u8 (c.r : Int), .int .u8 (c.q : Int), .int .u8 (c.v0 : Int), .int .u8 (c.v1 : Int), .int .u8 (c.v2 : Int), .int .u8 (c.v3 : Int), .int .u8 (c.v4 : Int), .int .u8 (c.v5 : Int), .int .u8 (c.v6 : Int), .int .u8 (c.v7 : Int)] 25)).heap[w.heap.size]? = some (.cells (czC c f 0).cells.toArray 25 (0, 0)) := by
    rw [czC_zero]; exact heap_alloc_new _ _
  have HB := Lib.hid (And.intro (below_box c w) hA)
  obtain ⟨d, hd⟩ : ∃ d, d = czC c f 8 := ⟨_, rfl⟩
  have hdok : d.Ok := by rw [hd]; exact czC_ok hc f 8
  obtain ⟨M, hM⟩ : ∃ M, M = leastF c.V want f := ⟨_, rfl⟩
  rw [← hM]
  have hM2 : M = match pick (qs d.V want) with | some m => (m, true) | none => (0, false) := by rw [hM, hd, czC_V]; rfl
  have HG := Lib.hid (And.intro h0 (And.intro h1 (And.intro hT (And.intro hdok (And.intro hd (And.intro hM2 hf))))))
  clear hA hdok hM hM2 hd h0 h1 hT hc hf
  unfold Cf.val
  go_enter Tryd.func26, Tryd.ntmps26
  go_wp2_with fail
  generalize w.alloc (.cells #[.int .u32 (c.e : Int), .int .u8 (c.r : Int), .int .u8 (c.q : Int), .int .u8 (c.v0 : Int), .int .u8 (c.v1 : Int), .int .u8 (c.v2 : Int), .int .u8 (c.v3 : Int), .int .u8 (c.v4 : Int), .int .u8 (c.v5 : Int), .int .u8 (c.v6 : Int), .int .u8 (c.v7 : Int)] 25) = w1 at HB ⊢
  go_loopw [10] (fun i wr => ∃ k : Nat, k ≤ 8 ∧ i = .int .i64 (k : Int) ∧ Below w.heap.size w wr ∧ wr.heap[w.heap.size]? = some (.cells (czC c f k).cells.toArray 25 (0, 0))) (fun i _ => 8 - (intOf i).toNat)
  case atStart => exact ⟨0, by omega, rfl, HB.out.1, HB.out.2⟩
  case round =>
    obtain ⟨k, hk, rfl, hb, hcur⟩ := hrel
    have H := Lib.hid (And.intro hb hcur)
    clear hb hcur
    by_cases hlt : k < 8
    · have hhas := has_calls f (k : Int) HG.out.2.2.2.2.2.2 (by omega) (by omega) wr
      rw [hasF_nat f k (by omega)] at hhas
      have hd1 := (boxS_heap H.out.2).vote k hlt
      have hfr := free_block H.out.2 (3 + k)
      cases hbit : f.testBit k with
      | true =>
        rw [hbit] at hhas
        have hs := czC_same c f k hbit
        have HH := Lib.hid (And.intro hhas hs)
        clear hhas hs hbit hd1 hfr
        go_wp2_with fail
        refine HH.out.1.mono ?_
        rintro e w' ⟨rfl, rfl⟩
        go_wp2_with fail
        go_roundw
        case rel => exact ⟨k + 1, by omega, by go_num, H.out.1, by rw [HH.out.2]; exact H.out.2⟩
        case measure => (first | (simp [intOf]; done) | (simp [intOf]; omega))
      | false =>
        rw [hbit] at hhas
        have hs := czC_set c f k hlt hbit
        have HH := Lib.hid (And.intro hhas hs)
        clear hhas hs hbit
        go_wp2_with fail
        refine HH.out.1.mono ?_
        rintro e w' ⟨rfl, rfl⟩
        go_wp2_with fail
        go_roundw
        case rel => exact ⟨k + 1, by omega, by go_num, H.out.1.setCell (p := ⟨w.heap.size, 3 + k, none⟩) (Nat.le_refl _) _, by rw [← HH.out.2]; exact block_set H.out.2 _⟩
        case measure => (first | (simp [intOf]; done) | (simp [intOf]; omega))
    · obtain rfl : k = 8 := by omega
      have hcur := H.out.2
      rw [← HG.out.2.2.2.2.1] at hcur
      obtain ⟨k0, k1, k2, k3, k4, k5, k6, k7, k8, k9, k10⟩ := boxS_heap hcur
      clear hcur
      go_wp2_with fail
      refine (vquorums_calls d HG.out.2.2.2.1 want HG.out.1 HG.out.2.1 wr (tab_below HG.out.2.2.1 H.out.1 hw) (by have := H.out.1.size; omega)).mono ?_
      rintro e w3 ⟨v, rfl, ho, hb⟩
      obtain ⟨A, cc, rfl, hr⟩ := own_sets ho
      have hq := qs_len d.V want
      have hql : ∀ x ∈ qs d.V want, x < 18446744073709551616 := fun x hx => by have := qs_lt hx; omega
      have hM2 := HG.out.2.2.2.2.2.1
      obtain ⟨L, hL⟩ : ∃ L, L = qs d.V want := ⟨_, rfl⟩
      rw [← hL] at hr hq hql hM2 ⊢
      have H3 := Lib.hid (And.intro (H.out.1.trans (hb.mono H.out.1.size)) (And.intro hr (And.intro hql hM2)))
      clear ho hr hb hql hM2 hL k0 k1 k2 k3 k4 k5 k6 k7 k8 k9 k10
      by_cases hz : L.length = 0
      · have hl0 : ((L.length : Int) == 0) = true := by rw [hz]; rfl
        have hn : L = [] := List.eq_nil_of_length_eq_zero hz
        go_wp2_with fail
        go_ret2
        refine ⟨?_, H3.out.1⟩
        have := H3.out.2.2.2
        rw [hn] at this
        rw [this]
        rfl
      · have hl0 : ((L.length : Int) == 0) = false := by rw [beq_eq_false_iff_ne]; omega
        have hmin := minfunc_calls A cc L H3.out.2.2.1 (by omega) (by omega) w3 H3.out.2.1
        have HM := Lib.hid hmin
        clear hmin
        go_wp2_with fail
        refine HM.out.mono ?_
        rintro e w' ⟨m, rfl, hp, rfl⟩
        have HP := Lib.hid hp
        clear hp
        go_wp2_with fail
        go_ret2
        refine ⟨?_, H3.out.1⟩
        have := H3.out.2.2.2
        rw [HP.out] at this
        rw [this]
        rfl
end Go.Proofs.YtcgbjodeklknoaaDoor.Vo
