/- The walks of the reference's frames of any bytes, and of the functions that lean on both. -/
import Derived.Test.YtjngekbgfinidaaScanWalk
namespace Go.Proofs.Ytjngekbgfinidaa.Fr
set_option linter.unusedVariables false
set_option linter.unusedSimpArgs false
open Go.RowKit
open Go.Proofs.Ytjngekbgfinidaa.Num Go.Proofs.Ytjngekbgfinidaa.Crc

set_option maxRecDepth 100000 in
theorem refscan_calls (a : Option Addr) (c : Nat) (l : List UInt8) (w : World) (hr : Row8 w a l) (hc : l.length ≤ c) (hm : l.length ≤ 1000000) :
    Calls Try.prog 20 #[.slice a l.length c] w fun e w' => ∃ v ps, e = .returned (.tuple #[v, .int .i64 ((scanF l.length l).2.1 : Int)]) ∧ OwnL w' w.heap.size v ps ∧ bytesOf ps = (scanF l.length l).1 ∧ Below w.heap.size w w' := by
  have G := Lib.hid (And.intro hr hc)
  clear hr hc
  go_enter Try.func20, Try.ntmps20
  go_wp2_with fail
  go_loopw [4, 5] (fun x i w' => ∃ (k : Nat) (ps : List (Option Addr × Nat × List UInt8)), k ≤ l.length ∧ i = .int .i64 (k : Int) ∧ OwnL w' w.heap.size x ps ∧ Left l ps k ∧ Below w.heap.size w w') (fun _ i _ => l.length - (intOf i).toNat)
  case atStart => exact ⟨0, [], by omega, rfl, OwnL.nil _ _, Left.start _, Below.refl _ _⟩
  case round =>
    obtain ⟨k, ps, hk, rfl, hown, hleft, hB⟩ := hrel
    obtain ⟨a2, S2, R2⟩ := sl_from (P := Try.prog) (t := 22) Try.underlying22 size8 a l.length c k (k : Int) rfl hk
    have hnx := refnext_calls a2 (c - k) (l.drop k) wr (R2 wr l rfl G.out.2 (G.out.1.below hB)) (by have := G.out.2; rw [List.length_drop]; omega) (by rw [List.length_drop]; omega)
    rw [List.length_drop] at hnx
    obtain ⟨y, ey⟩ : ∃ y, y = nextF (l.drop k) := ⟨_, rfl⟩
    rw [← ey] at hnx
    have H := Lib.hid (And.intro hnx (And.intro hown (And.intro hleft (And.intro ey hB))))
    clear hnx hown hleft hB R2 ey
    go_wp2_with fail
    refine H.out.1.mono ?_
    rintro e w1 ⟨⟨v1, rfl, ho1⟩, hb1⟩
    have hz := H.out.2.2.2.2.size
    obtain ⟨A1, c1, rfl, _⟩ := ho1.row
    have H1 := Lib.hid (And.intro (ho1.mono hz) (And.intro (H.out.2.1.below hb1) (H.out.2.2.2.2.trans (hb1.mono hz))))
    clear ho1 hb1
    by_cases h0 : y.2.2 = 0
    · rw [h0]
      have H0 := Lib.hid h0
      clear h0
      obtain ⟨n1, en1⟩ : ∃ n1, n1 = y.1.length := ⟨_, rfl⟩
      have hle := nextF_le (l.drop k) (by rw [← H.out.2.2.2.1]; exact H0.out)
      rw [← H.out.2.2.2.1, List.length_drop] at hle
      rw [← en1] at H1 ⊢
      have hc0 : (w1.alloc (.cells #[.slice A1 n1 c1] 22)).cell? ⟨w1.heap.size, 0, none⟩ = some (.slice A1 n1 c1) := by simp [World.cell?, heap_alloc]
      have HC := Lib.hid hc0
      clear hc0 en1
      go_wp2_with (at_builtin; refine wpList_append1 rfl (Operand.tmp 23) (Operand.tmp 25) rfl w.heap.size w.heap.size w u4 ps (.slice A1 n1 c1) y.1 ⟨w1.heap.size, 0, none⟩ 1 rfl (H1.out.2.1.below (below_alloc1 _ _)) (H1.out.1.below (below_alloc1 _ _)) rfl HC.out (by have := H.out.2.2.1.2.1; omega) (H1.out.2.2.trans ((below_alloc1 _ _).mono H1.out.2.2.size)).size (H1.out.2.2.trans ((below_alloc1 _ _).mono H1.out.2.2.size)) (Nat.le_refl _) ?_; intro v' w2 p hown2 hp2 hb2; have H2 := Lib.hid (And.intro hown2 (And.intro hp2 hb2)); clear hown2 hp2 hb2)
      go_round
      case rel => exact ⟨k + y.2.1, ps ++ [p], by omega, by go_num, H2.out.1, by rw [H.out.2.2.2.1]; exact H.out.2.2.1.more (by rw [← H.out.2.2.2.1]; exact H0.out) p (by rw [H2.out.2.1, H.out.2.2.2.1]), H2.out.2.2⟩
      case measure => (first | (simp [intOf]; done) | (simp [intOf]; omega))
    · have hne : ((y.2.2 : Int) != 0) = true := by rw [bne_iff_ne]; omega
      have H0 := Lib.hid h0
      clear h0
      go_wp2_with fail
      go_ret2
      have hs := H.out.2.2.1.stop (by rw [← H.out.2.2.2.1]; exact H0.out)
      rw [hs]
      exact ⟨_, ps, rfl, H1.out.2.1, rfl, H1.out.2.2⟩

theorem scanF_bound (f : Nat) (b : List UInt8) : (scanF f b).2.1 ≤ b.length ∧ (scanF f b).2.2 ≤ 8 := by
  induction f generalizing b with
  | zero => exact ⟨Nat.zero_le _, (nextF_bound b).2⟩
  | succ f ih =>
    rw [scanF]
    by_cases h : (nextF b).2.2 = 0
    · rw [if_neg (fun k => k h)]
      have := ih (b.drop (nextF b).2.1)
      have h2 := nextF_le b h
      rw [List.length_drop] at this
      exact ⟨by show (nextF b).2.1 + _ ≤ _; omega, this.2⟩
    · rw [if_pos h]; exact ⟨Nat.zero_le _, (nextF_bound b).2⟩
theorem scanF_end (f : Nat) (b : List UInt8) (hf : b.length ≤ f) : (nextF (b.drop (scanF f b).2.1)).2.2 = (scanF f b).2.2 := by
  induction f generalizing b with
  | zero => rw [scanF]; rfl
  | succ f ih =>
    rw [scanF]
    by_cases h : (nextF b).2.2 = 0
    · rw [if_neg (fun k => k h)]
      have h2 := nextF_le b h
      have := ih (b.drop (nextF b).2.1) (by rw [List.length_drop]; omega)
      rw [List.drop_drop] at this
      exact this
    · rw [if_pos h]; rfl
/-- All frames. -/
def allF (b : List UInt8) : List (List UInt8) × Nat := if (scanF b.length b).2.1 < b.length then ([], (scanF b.length b).2.2) else ((scanF b.length b).1, 0)

theorem pubscan_calls (a : Option Addr) (c : Nat) (l : List UInt8) (w : World) (hr : Row8 w a l) (hc : l.length ≤ c) (hcm : c ≤ 9223372036854775807) (hm : l.length ≤ 1000000) :
    Calls Try.prog 19 #[.slice a l.length c] w fun e w' => ∃ v ps, e = .returned (.tuple #[v, .int .i64 ((scanF l.length l).2.1 : Int)]) ∧ OwnL w' w.heap.size v ps ∧ bytesOf ps = (scanF l.length l).1 ∧ Below w.heap.size w w' := by
  have G := Lib.hid (And.intro hr (And.intro hc hcm))
  clear hr hc hcm
  go_enter Try.func19, Try.ntmps19
  go_wp2_with fail
  refine (scan_calls a c l w G.out.1 G.out.2.1 G.out.2.2 hm).mono ?_
  rintro e w1 ⟨v, ps, rfl, ho, hp, hb⟩
  go_wp2_with fail
  go_ret2
  exact ⟨_, ps, rfl, ho, hp, hb⟩
set_option maxRecDepth 100000 in
theorem all_calls (a : Option Addr) (c : Nat) (l : List UInt8) (w : World) (hr : Row8 w a l) (hc : l.length ≤ c) (hcm : c ≤ 9223372036854775807) (hm : l.length ≤ 1000000) :
    Calls Try.prog 21 #[.slice a l.length c] w fun e w' => ∃ v ps, e = .returned (.tuple #[v, .int .i64 ((allF l).2 : Int)]) ∧ OwnL w' w.heap.size v ps ∧ bytesOf ps = (allF l).1 ∧ Below w.heap.size w w' := by
  have G := Lib.hid (And.intro hr (And.intro hc hcm))
  clear hr hc hcm
  go_enter Try.func21, Try.ntmps21
  go_wp2_with fail
  refine (scan_calls a c l w G.out.1 G.out.2.1 G.out.2.2 hm).mono ?_
  rintro e w1 ⟨v, ps, rfl, ho, hp, hb⟩
  obtain ⟨y, ey⟩ : ∃ y, y = scanF l.length l := ⟨_, rfl⟩
  rw [← ey] at hp ⊢
  have H := Lib.hid (And.intro ho (And.intro hp (And.intro hb ey)))
  clear ho hp hb ey
  by_cases h : y.2.1 < l.length
  · go_wp2_with fail
    go_ret2
    have e : allF l = ([], y.2.2) := by unfold allF; rw [← H.out.2.2.2, if_pos h]
    rw [e]
    exact ⟨_, [], rfl, OwnL.nil _ _, rfl, H.out.2.2.1⟩
  · go_wp2_with fail
    go_ret2
    have e : allF l = (y.1, 0) := by unfold allF; rw [← H.out.2.2.2, if_neg h]
    rw [e]
    exact ⟨_, ps, rfl, H.out.1, H.out.2.1, H.out.2.2.1⟩
set_option maxRecDepth 100000 in
theorem refall_calls (a : Option Addr) (c : Nat) (l : List UInt8) (w : World) (hr : Row8 w a l) (hc : l.length ≤ c) (hm : l.length ≤ 1000000) :
    Calls Try.prog 22 #[.slice a l.length c] w fun e w' => ∃ v ps, e = .returned (.tuple #[v, .int .i64 ((allF l).2 : Int)]) ∧ OwnL w' w.heap.size v ps ∧ bytesOf ps = (allF l).1 ∧ Below w.heap.size w w' := by
  have G := Lib.hid (And.intro hr hc)
  clear hr hc
  go_enter Try.func22, Try.ntmps22
  go_wp2_with fail
  refine (refscan_calls a c l w G.out.1 G.out.2 hm).mono ?_
  rintro e w1 ⟨v, ps, rfl, ho, hp, hb⟩
  obtain ⟨y, ey⟩ : ∃ y, y = scanF l.length l := ⟨_, rfl⟩
  rw [← ey] at hp ⊢
  have H := Lib.hid (And.intro ho (And.intro hp (And.intro hb ey)))
  clear ho hp hb ey
  by_cases h : y.2.1 < l.length
  · obtain ⟨a2, S2, R2⟩ := sl_from (P := Try.prog) (t := 22) Try.underlying22 size8 a l.length c y.2.1 (y.2.1 : Int) rfl (by omega)
    have hnx := refnext_calls a2 (c - y.2.1) (l.drop y.2.1) w1 (R2 w1 l rfl G.out.2 (G.out.1.below H.out.2.2.1)) (by have := G.out.2; rw [List.length_drop]; omega) (by rw [List.length_drop]; omega)
    have he := scanF_end l.length l (Nat.le_refl _)
    rw [← H.out.2.2.2] at he
    rw [List.length_drop, he] at hnx
    have HN := Lib.hid hnx
    clear hnx R2 he
    go_wp2_with fail
    refine HN.out.mono ?_
    rintro e w2 ⟨⟨v2, rfl, ho2⟩, hb2⟩
    go_wp2_with fail
    go_ret2
    have e : allF l = ([], y.2.2) := by unfold allF; rw [← H.out.2.2.2, if_pos h]
    rw [e]
    exact ⟨_, [], rfl, OwnL.nil _ _, rfl, H.out.2.2.1.trans (hb2.mono H.out.2.2.1.size)⟩
  · go_wp2_with fail
    go_ret2
    have e : allF l = (y.1, 0) := by unfold allF; rw [← H.out.2.2.2, if_neg h]
    rw [e]
    exact ⟨_, ps, rfl, H.out.1, H.out.2.1, H.out.2.2.1⟩
theorem lists_own {w0 : World} {base base' : Nat} {v v' : Value} {ps qs : List (Option Addr × Nat × List UInt8)} (h : OwnL w0 base v ps) (h' : OwnL w0 base' v' qs) {w : World} (hb : Below w0.heap.size w0 w) :
    Calls Try.prog 23 #[v, v'] w fun e w' => e = .returned (.bool (decide (bytesOf ps = bytesOf qs))) ∧ Below w.heap.size w w' := by
  obtain ⟨A, c, rfl, hr, h1, h2⟩ := (h.below hb).parts
  obtain ⟨A', c', rfl, hr', _⟩ := (h'.below hb).parts
  exact lists_calls A c ps A' c' qs w hr hr' (by omega)

set_option maxRecDepth 100000 in
theorem FrameScans_walk (a : Option Addr) (c : Nat) (l : List UInt8) (w : World) (hr : Row8 w a l) (hc : l.length ≤ c) (hcm : c ≤ 9223372036854775807) :
    Calls Try.prog 8 #[.slice a l.length c] w fun e w' => e = .returned (.bool true) ∧ Below w.heap.size w w' := by
  have G := Lib.hid (And.intro hr (And.intro hc hcm))
  clear hr hc hcm
  go_enter Try.func8, Try.ntmps8
  go_wp2_with fail
  refine (long_calls _ _ _ _).mono ?_
  rintro e w' ⟨rfl, rfl⟩
  by_cases hl : 6000 < l.length
  · go_wp2_with fail
    refine (alive_calls _).mono ?_
    rintro e w' ⟨rfl, hb⟩
    go_wp2_with fail
    go_ret
    exact ⟨rfl, hb⟩
  · go_wp2_with fail
    refine (pubscan_calls a c l _ G.out.1 G.out.2.1 G.out.2.2 (by omega)).mono ?_
    rintro e w1 ⟨v1, p1, rfl, ho1, hp1, hb1⟩
    have H1 := Lib.hid (And.intro ho1 (And.intro hp1 hb1))
    clear ho1 hp1 hb1
    have hbd := scanF_bound l.length l
    obtain ⟨y, ey⟩ : ∃ y, y = scanF l.length l := ⟨_, rfl⟩
    rw [← ey] at hbd ⊢
    go_wp2_with fail
    refine (refscan_calls a c l _ (G.out.1.below H1.out.2.2) G.out.2.1 (by omega)).mono ?_
    rintro e w2 ⟨v2, p2, rfl, ho2, hp2, hb2⟩
    have H2 := Lib.hid (And.intro (H1.out.1.below hb2) (And.intro ho2 (And.intro hp2 (H1.out.2.2.trans (hb2.mono H1.out.2.2.size)))))
    clear ho2 hp2 hb2
    rw [← ey]
    go_wp2_with fail
    refine (all_calls a c l _ (G.out.1.below H2.out.2.2.2) G.out.2.1 G.out.2.2 (by omega)).mono ?_
    rintro e w3 ⟨v3, p3, rfl, ho3, hp3, hb3⟩
    have H3 := Lib.hid (And.intro (H2.out.1.below hb3) (And.intro (H2.out.2.1.below hb3) (And.intro ho3 (And.intro hp3 (H2.out.2.2.2.trans (hb3.mono H2.out.2.2.2.size))))))
    clear ho3 hp3 hb3
    have hz : (allF l).2 ≤ 8 := by unfold allF; split; rw [← ey]; exact hbd.2; exact Nat.zero_le _
    obtain ⟨z, ez⟩ : ∃ z, z = allF l := ⟨_, rfl⟩
    rw [← ez] at hz ⊢
    go_wp2_with fail
    refine (refall_calls a c l _ (G.out.1.below H3.out.2.2.2.2) G.out.2.1 (by omega)).mono ?_
    rintro e w4 ⟨v4, p4, rfl, ho4, hp4, hb4⟩
    have H4 := Lib.hid (And.intro (H3.out.1.below hb4) (And.intro (H3.out.2.1.below hb4) (And.intro (H3.out.2.2.1.below hb4) (And.intro ho4 (And.intro hp4 (H3.out.2.2.2.2.trans (hb4.mono H3.out.2.2.2.2.size)))))))
    clear ho4 hp4 hb4
    rw [← ez]
    go_wp2_with fail
    refine (lists_own H4.out.1 H4.out.2.1 (Below.refl _ _)).mono ?_
    rintro e w5 ⟨rfl, hb5⟩
    rw [show decide (bytesOf p1 = bytesOf p2) = true from by rw [H1.out.2.1, H2.out.2.2.1]; simp]
    have H5 := Lib.hid (And.intro (H4.out.2.2.1.below hb5) (And.intro (H4.out.2.2.2.1.below hb5) (H4.out.2.2.2.2.2.trans (hb5.mono H4.out.2.2.2.2.2.size))))
    clear hb5
    go_wp2_with fail
    refine (lists_own H5.out.1 H5.out.2.1 (Below.refl _ _)).mono ?_
    rintro e w6 ⟨rfl, hb6⟩
    rw [show decide (bytesOf p3 = bytesOf p4) = true from by rw [H3.out.2.2.2.1, H4.out.2.2.2.2.1]; simp]
    have H6 := Lib.hid (H5.out.2.2.trans (hb6.mono H5.out.2.2.size))
    clear hb6
    go_wp2_with fail
    refine (alive_calls _).mono ?_
    rintro e w7 ⟨rfl, hb7⟩
    go_wp2_with fail
    go_ret
    exact ⟨rfl, H6.out.trans (hb7.mono H6.out.size)⟩
end Go.Proofs.Ytjngekbgfinidaa.Fr
