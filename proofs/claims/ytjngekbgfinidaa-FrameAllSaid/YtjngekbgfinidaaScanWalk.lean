/- The walks of the frames of any bytes. -/
import Derived.Test.YtjngekbgfinidaaListWalk
namespace Go.Proofs.Ytjngekbgfinidaa.Fr
set_option linter.unusedVariables false
set_option linter.unusedSimpArgs false
open Go.RowKit
open Go.Proofs.Ytjngekbgfinidaa.Num Go.Proofs.Ytjngekbgfinidaa.Crc

/-- The loads of all frames, the place behind them, and why there is no other one. -/
def scanF : Nat → List UInt8 → List (List UInt8) × Nat × Nat
  | 0, b => ([], 0, (nextF b).2.2)
  | f + 1, b => if (nextF b).2.2 ≠ 0 then ([], 0, (nextF b).2.2) else ((nextF b).1 :: (scanF f (b.drop (nextF b).2.1)).1, (nextF b).2.1 + (scanF f (b.drop (nextF b).2.1)).2.1, (scanF f (b.drop (nextF b).2.1)).2.2)
theorem scanF_stop (f : Nat) (b : List UInt8) (h : (nextF b).2.2 ≠ 0) : scanF f b = ([], 0, (nextF b).2.2) := by
  cases f with
  | zero => rfl
  | succ f => rw [scanF, if_pos h]
theorem nextF_le (b : List UInt8) (h : (nextF b).2.2 = 0) : 8 ≤ (nextF b).2.1 ∧ (nextF b).2.1 ≤ b.length := by
  have := (sizeF_le b).2.2
  unfold nextF at h ⊢
  split at h
  · rename_i h1; exact absurd h h1
  · rename_i h1
    rw [if_neg h1]
    split at h
    · simp at h
    · rename_i h2
      rw [if_neg h2]
      split at h
      · rename_i h3
        rw [if_pos h3]
        exact ⟨this (by omega), by show (sizeF b).1 ≤ b.length; omega⟩
      · simp at h
theorem nextF_bound (l : List UInt8) : (nextF l).2.1 ≤ 4104 ∧ (nextF l).2.2 ≤ 8 := by
  have := sizeF_le l
  unfold nextF
  split
  · exact ⟨Nat.zero_le _, by show (sizeF l).2 ≤ 8; omega⟩
  · split
    · simp
    · split
      · exact ⟨this.1, Nat.zero_le _⟩
      · simp
/-- What is left, ps being found and k bytes read. -/
def Left (b : List UInt8) (ps : List (Option Addr × Nat × List UInt8)) (k : Nat) : Prop :=
  k ≤ b.length ∧ ps.length ≤ k ∧ ∃ f, b.length ≤ f + k ∧ scanF b.length b = (bytesOf ps ++ (scanF f (b.drop k)).1, k + (scanF f (b.drop k)).2.1, (scanF f (b.drop k)).2.2)
theorem Left.start (b : List UInt8) : Left b [] 0 := ⟨Nat.zero_le _, Nat.le_refl _, b.length, by omega, by simp [bytesOf]⟩
theorem Left.stop {b : List UInt8} {ps : List (Option Addr × Nat × List UInt8)} {k : Nat} (h : Left b ps k) (hs : (nextF (b.drop k)).2.2 ≠ 0) : scanF b.length b = (bytesOf ps, k, (nextF (b.drop k)).2.2) := by
  obtain ⟨_, _, f, _, e⟩ := h
  rw [e, scanF_stop f _ hs]; simp
theorem Left.more {b : List UInt8} {ps : List (Option Addr × Nat × List UInt8)} {k : Nat} (h : Left b ps k) (hs : (nextF (b.drop k)).2.2 = 0) (p : Option Addr × Nat × List UInt8) (hp : p.2.2 = (nextF (b.drop k)).1) : Left b (ps ++ [p]) (k + (nextF (b.drop k)).2.1) := by
  obtain ⟨hk, hps, f, hf, e⟩ := h
  obtain ⟨h8, hle⟩ := nextF_le _ hs
  rw [List.length_drop] at hle
  refine ⟨by omega, by rw [List.length_append, List.length_singleton]; omega, f - 1, by omega, ?_⟩
  cases f with
  | zero => omega
  | succ f =>
    rw [e, scanF, if_neg (fun h => h hs), List.drop_drop]
    simp only [bytesOf, List.map_append, List.map_cons, List.map_nil, hp, Nat.add_sub_cancel, List.append_assoc, List.singleton_append, Nat.add_assoc]

set_option maxRecDepth 100000 in
theorem scan_calls (a : Option Addr) (c : Nat) (l : List UInt8) (w : World) (hr : Row8 w a l) (hc : l.length ≤ c) (hcm : c ≤ 9223372036854775807) (hm : l.length ≤ 1000000) :
    Calls Try.prog 29 #[.slice a l.length c] w fun e w' => ∃ v ps, e = .returned (.tuple #[v, .int .i64 ((scanF l.length l).2.1 : Int), .int .i64 ((scanF l.length l).2.2 : Int)]) ∧ OwnL w' w.heap.size v ps ∧ bytesOf ps = (scanF l.length l).1 ∧ Below w.heap.size w w' := by
  have G := Lib.hid (And.intro hr (And.intro hc hcm))
  clear hr hc hcm
  go_enter Try.func29, Try.ntmps29
  go_wp2_with fail
  go_loopw [5, 6] (fun x i w' => ∃ (k : Nat) (ps : List (Option Addr × Nat × List UInt8)), k ≤ l.length ∧ i = .int .i64 (k : Int) ∧ OwnL w' w.heap.size x ps ∧ Left l ps k ∧ Below w.heap.size w w') (fun _ i _ => l.length - (intOf i).toNat)
  case atStart => exact ⟨0, [], by omega, rfl, OwnL.nil _ _, Left.start _, Below.refl _ _⟩
  case round =>
    obtain ⟨k, ps, hk, rfl, hown, hleft, hB⟩ := hrel
    obtain ⟨a2, S2, R2⟩ := sl_from (P := Try.prog) (t := 22) Try.underlying22 size8 a l.length c k (k : Int) rfl hk
    have hnx := next_calls a2 (c - k) (l.drop k) wr (R2 wr l rfl G.out.2.1 (G.out.1.below hB)) (by have := G.out.2.1; rw [List.length_drop]; omega) (by rw [List.length_drop]; omega) (by have := G.out.2.2; omega)
    rw [List.length_drop] at hnx
    obtain ⟨y, ey⟩ : ∃ y, y = nextF (l.drop k) := ⟨_, rfl⟩
    rw [← ey] at hnx
    have H := Lib.hid (And.intro hnx (And.intro hown (And.intro hleft (And.intro ey hB))))
    clear hnx hown hleft hB R2 ey
    go_wp2_with fail
    refine H.out.1.mono ?_
    rintro e w1 ⟨v1, rfl, ho1, hb1⟩
    have hz := H.out.2.2.2.2.size
    obtain ⟨A1, c1, rfl, _⟩ := ho1.row
    have H1 := Lib.hid (And.intro (ho1.mono hz) (And.intro (H.out.2.1.below hb1) (H.out.2.2.2.2.trans (hb1.mono hz))))
    clear ho1 hb1
    by_cases h0 : y.2.2 = 0
    · rw [h0]
      have H0 := Lib.hid h0
      clear h0
      obtain ⟨n1, en1⟩ : ∃ n1, n1 = y.1.length := ⟨_, rfl⟩
      have hle := nextF_le (l.drop k) (by rw [← H.out.2.2.2.1]; exact H0.out)
      rw [← H.out.2.2.2.1, List.length_drop] at hle
      rw [← en1] at H1 ⊢
      have hc0 : (w1.alloc (.cells #[.slice A1 n1 c1] 22)).cell? ⟨w1.heap.size, 0, none⟩ = some (.slice A1 n1 c1) := by simp [World.cell?, heap_alloc]
      have HC := Lib.hid hc0
      clear hc0 en1
      go_wp2_with (at_builtin; refine wpList_append1 rfl (Operand.tmp 23) (Operand.tmp 25) rfl w.heap.size w.heap.size w u5 ps (.slice A1 n1 c1) y.1 ⟨w1.heap.size, 0, none⟩ 1 rfl (H1.out.2.1.below (below_alloc1 _ _)) (H1.out.1.below (below_alloc1 _ _)) rfl HC.out (by have := H.out.2.2.1.2.1; omega) (H1.out.2.2.trans ((below_alloc1 _ _).mono H1.out.2.2.size)).size (H1.out.2.2.trans ((below_alloc1 _ _).mono H1.out.2.2.size)) (Nat.le_refl _) ?_; intro v' w2 p hown2 hp2 hb2; have H2 := Lib.hid (And.intro hown2 (And.intro hp2 hb2)); clear hown2 hp2 hb2)
      go_round
      case rel => exact ⟨k + y.2.1, ps ++ [p], by omega, by go_num, H2.out.1, by rw [H.out.2.2.2.1]; exact H.out.2.2.1.more (by rw [← H.out.2.2.2.1]; exact H0.out) p (by rw [H2.out.2.1, H.out.2.2.2.1]), H2.out.2.2⟩
      case measure => (first | (simp [intOf]; done) | (simp [intOf]; omega))
    · have hne : ((y.2.2 : Int) != 0) = true := by rw [bne_iff_ne]; omega
      have H0 := Lib.hid h0
      clear h0
      go_wp2_with fail
      go_ret3
      have hs := H.out.2.2.1.stop (by rw [← H.out.2.2.2.1]; exact H0.out)
      rw [hs, ← H.out.2.2.2.1]
      exact ⟨_, ps, rfl, H1.out.2.1, rfl, H1.out.2.2⟩
end Go.Proofs.Ytjngekbgfinidaa.Fr
