/- The walks of many zeros at once: squares of one step, in arrays of 32 words. -/
import Derived.Test.YtocbogagfdbcmaaCrcStep
import Derived.Deep.QuietTactic
import Derived.BigQuiet
import Derived.Deep.RegionWith
namespace Go.Proofs.Ytocbogagfdbcmaa.Crc
set_option linter.unusedVariables false
set_option linter.unusedSimpArgs false
open Go.RowKit

/-- The 32 words at x are what each bit becomes by m bytes 0. -/
def Mat (w : World) (x : Addr) (m : Nat) : Prop := ∀ i : Nat, i < 32 → w.cell? (x.add i) = some (.int .u32 (u (zeros m (1#32 <<< i))))

theorem Mat.drewN {w : World} {x : Addr} {m : Nat} (h : Mat w x m) (n : Nat) : Mat (w.drewN n) x m := fun i hi => (cell_drewN _ _ _).trans (h i hi)
set_option maxRecDepth 100000 in
theorem of_calls (x : Addr) (m : Nat) (c : BitVec 32) (w : World) (hm : Mat w x m) :
    Calls Try.prog 25 #[.pointer (some x), .int .u32 (u c)] w fun e w' => e = .returned (.int .u32 (u (zeros m c))) ∧ ∃ n, w' = w.drewN n := by
  go_enter Try.func25, Try.ntmps25
  go_wp2_with fail
  go_loopw [5, 9] (fun y i w' => ∃ k : Nat, k ≤ 32 ∧ i = .int .i64 k ∧ y = .int .u32 (u (pick (fun i => zeros m (1#32 <<< i)) c k)) ∧ ∃ n, w' = w.drewN n) (fun _ i _ => 32 - (intOf i).toNat)
  case atStart => exact ⟨0, by omega, rfl, rfl, 0, rfl⟩
  case round =>
    obtain ⟨k, hk, rfl, rfl, n, rfl⟩ := hrel
    by_cases hlt : k < 32
    · have hck := hm k hlt
      clear hm
      go_wp2_with fail
      go_quiet (fail)
      go_wp2_with fail
      go_roundw
      case rel => exact ⟨k + 1, by omega, by go_num, by rw [pick_prog]; rfl, _, rfl⟩
      case measure => simp [intOf]; omega
    · obtain rfl : k = 32 := by omega
      go_wp2_with fail
      go_ret
      exact ⟨by rw [← pick_all (zeros m) (zeros_xor m) c]; rfl, _, rfl⟩

/-- A block of 32 words, the first k of which are what the bits become by m bytes 0. -/
def Blk (w : World) (b m k : Nat) : Prop := ∃ C : Array Value, C.size = 32 ∧ (∃ T, w.heap[b]? = some (.cells C T (0, 0))) ∧ ∀ i : Nat, i < k → C[i]? = some (.int .u32 (u (zeros m (1#32 <<< i))))
theorem Blk.cell {w : World} {b m k : Nat} (h : Blk w b m k) {j : Nat} (hj : j < 32) : ∃ v, w.cell? ⟨b, j, none⟩ = some v := by
  obtain ⟨C, hC, ⟨T, hT⟩, _⟩ := h
  exact ⟨C[j]'(by omega), by simp [World.cell?, hT]⟩
theorem Blk.free {w : World} {b m k : Nat} (h : Blk w b m k) (j : Nat) : w.frozen? ⟨b, j, none⟩ = false := by
  obtain ⟨C, hC, ⟨T, hT⟩, _⟩ := h
  simp [World.frozen?, hT]
theorem Blk.set {w : World} {b m k : Nat} (h : Blk w b m k) (hk : k < 32) : Blk (w.setCell ⟨b, k, none⟩ (.int .u32 (u (zeros m (1#32 <<< k))))) b m (k + 1) := by
  obtain ⟨C, hC, ⟨T, hT⟩, hv⟩ := h
  refine ⟨C.setIfInBounds k (.int .u32 (u (zeros m (1#32 <<< k)))), by simpa using hC, ⟨T, ?_⟩, fun i hi => ?_⟩
  · simp [World.setCell, Array.getElem?_modify, hT]
  · by_cases e : k = i
    · subst e; simp [hC, hk]
    · rw [Array.getElem?_setIfInBounds_ne e]; exact hv i (by omega)
theorem Blk.same {w w' : World} {b m k : Nat} (h : Blk w b m k) (e : w'.heap = w.heap) : Blk w' b m k := by
  unfold Blk at *; rw [e]; exact h
theorem Blk.mat {w : World} {b m : Nat} (h : Blk w b m 32) : Mat w ⟨b, 0, none⟩ m := by
  obtain ⟨C, hC, ⟨T, hT⟩, hv⟩ := h
  intro i hi
  have := hv i hi
  by_cases e : i = 0
  · subst e; simp [World.cell?, Addr.add, hT, this]
  · simp [World.cell?, Addr.add, hT, this, e]

set_option maxRecDepth 100000 in
theorem first_calls (w : World) :
    Calls Try.prog 24 #[] w fun e w' => ∃ x, e = .returned (.pointer (some x)) ∧ Mat w' x 1 ∧ Below w.heap.size w w' := by
  go_enter Try.func24, Try.ntmps24
  go_wp2_with fail
  go_loopw [4] (fun i w' => ∃ k : Nat, k ≤ 32 ∧ i = .int .i64 k ∧ Blk w' w.heap.size 1 k ∧ Below w.heap.size w w') (fun i _ => 32 - (intOf i).toNat)
  case atStart => exact ⟨0, by omega, rfl, ⟨_, rfl, ⟨46, heap_alloc_new _ _⟩, fun i hi => by omega⟩, (Below.refl _ _).alloc (Nat.le_refl _) _⟩
  case round =>
    obtain ⟨k, hk, rfl, hblk, hbel⟩ := hrel
    by_cases hlt : k < 32
    · obtain ⟨v, hc⟩ := hblk.cell hlt
      have hf := hblk.free k
      go_wp2_with fail
      have hsh := shl_one k
      go_region_with (go_at_call 20; refine (step_calls _ _).mono ?_; rintro e w' ⟨rfl, rfl⟩)
      all_goals
        go_wp2_with fail
        go_roundw
        case rel => exact ⟨k + 1, by omega, by go_num, (hblk.set hlt).same rfl, (hbel.setCell (Nat.le_refl _) _).drew⟩
        case measure => simp [intOf]; omega
    · obtain rfl : k = 32 := by omega
      go_wp2_with fail
      go_ret
      exact ⟨_, rfl, hblk.mat, hbel⟩

set_option maxRecDepth 100000 in
theorem twice_calls (x : Addr) (m : Nat) (w : World) (hm : Mat w x m) :
    Calls Try.prog 26 #[.pointer (some x)] w fun e w' => ∃ y, e = .returned (.pointer (some y)) ∧ Mat w' y (m + m) ∧ Below w.heap.size w w' := by
  go_enter Try.func26, Try.ntmps26
  go_wp2_with fail
  go_loopw [8] (fun i w' => ∃ k : Nat, k ≤ 32 ∧ i = .int .i64 k ∧ Blk w' w.heap.size (m + m) k ∧ Below w.heap.size w w') (fun i _ => 32 - (intOf i).toNat)
  case atStart => exact ⟨0, by omega, rfl, ⟨_, rfl, ⟨46, heap_alloc_new _ _⟩, fun i hi => by omega⟩, (Below.refl _ _).alloc (Nat.le_refl _) _⟩
  case round =>
    obtain ⟨k, hk, rfl, hblk, hbel⟩ := hrel
    by_cases hlt : k < 32
    · have hmr : Mat wr x m := fun i hi => (hbel.cell (World.block_lt_of_cell? w _ (hm i hi))).trans (hm i hi)
      have hck := hmr k hlt
      clear hm
      obtain ⟨v, hc⟩ := hblk.cell hlt
      have hf := hblk.free k
      have Hm := Lib.hid hmr
      clear hmr
      go_wp2_with fail
      go_quiet (fail)
      go_wp2_with fail
      go_region_with (go_at_call 25; refine (of_calls _ m _ _ (Hm.out.drewN _)).mono ?_; rintro e w' ⟨rfl, nn, rfl⟩)
      all_goals
        rw [← zeros_add]
        go_wp2_with fail
        go_roundw
        case rel => exact ⟨k + 1, by omega, by go_num, ((hblk.same (w' := wr.drewN (nq + 1 + nn)) rfl).set hlt).same rfl, (below_drewN hbel _).setCell (Nat.le_refl _) _⟩
        case measure => simp [intOf]; omega
    · obtain rfl : k = 32 := by omega
      go_wp2_with fail
      go_ret
      exact ⟨_, rfl, hblk.mat, hbel⟩

set_option maxRecDepth 100000 in
theorem on_calls (c : BitVec 32) (n : Nat) (w : World) (hn : n < 4294967296) :
    Calls Try.prog 21 #[.int .u32 (u c), .int .u32 (n : Int)] w fun e w' => e = .returned (.int .u32 (u (zeros n c))) ∧ Below w.heap.size w w' := by
  have Hn := Lib.hid hn
  clear hn
  go_enter Try.func21, Try.ntmps21
  go_wp2_with fail
  refine (first_calls _).mono ?_
  rintro e w1 ⟨x, rfl, hM, hB⟩
  go_wp2_with fail
  go_loopw [0, 1, 5] (fun a b p w' => ∃ (d : BitVec 32) (j m : Nat) (y : Addr), a = .int .u32 (u d) ∧ b = .int .u32 (j : Int) ∧ p = .pointer (some y) ∧ Mat w' y m ∧ zeros (m * j) d = zeros n c ∧ Below w.heap.size w w') (fun _ b _ _ => (intOf b).toNat)
  case atStart => exact ⟨c, n, 1, x, rfl, rfl, rfl, hM, by rw [Nat.one_mul], hB⟩
  case round =>
    obtain ⟨d, j, m, y, rfl, rfl, rfl, hm, heq, hb⟩ := hrel
    have HQ := Lib.hid heq
    clear heq
    by_cases h0 : 0 < j
    · have h1 := odd_prog j
      by_cases h2 : j % 2 = 1
      · rw [h2] at h1
        have E2 := Lib.hid h2
        clear h2
        go_wp2_with fail
        refine (of_calls _ m _ _ hm).mono ?_
        rintro e w2 ⟨rfl, nn, rfl⟩
        go_wp2_with fail
        refine (twice_calls _ m _ (hm.drewN _)).mono ?_
        rintro e w2 ⟨z, rfl, hm2, hb2⟩
        go_wp2_with fail
        go_roundw
        case rel => exact ⟨zeros m d, j / 2, m + m, z, rfl, by go_num, rfl, hm2, (zeros_odd m j d E2.out).trans HQ.out, hb.trans ((below_drewN (Below.refl _ _) _).trans (hb2.mono hb.size))⟩
        case measure => simp [intOf]; omega
      · have h3 : j % 2 = 0 := by omega
        rw [h3] at h1
        have E2 := Lib.hid h3
        clear h2 h3
        go_wp2_with fail
        refine (twice_calls _ m _ hm).mono ?_
        rintro e w2 ⟨z, rfl, hm2, hb2⟩
        go_wp2_with fail
        go_roundw
        case rel => exact ⟨d, j / 2, m + m, z, rfl, by go_num, rfl, hm2, (zeros_even m j d E2.out).trans HQ.out, hb.trans (hb2.mono hb.size)⟩
        case measure => simp [intOf]; omega
    · obtain rfl : j = 0 := by omega
      go_wp2_with fail
      go_ret
      exact ⟨by rw [← HQ.out, Nat.mul_zero]; rfl, hb⟩
end Go.Proofs.Ytocbogagfdbcmaa.Crc
