/- Fields in memory; the walks of the law's short and long. -/
import Derived.Test.YtinilglljjffjaaCWr
namespace Go.Proofs.Ytinilglljjffjaa.Cd
set_option linter.unusedVariables false
set_option linter.unusedSimpArgs false
open Go.RowKit
open Go.Proofs.Ytinilglljjffjaa.Num

/-- The fields fs stand in a row from a on (of no fields nothing is said). -/
def FRow (w : World) (a : Option Addr) (fs : List Fd) : Prop :=
  fs = [] ∨ ∃ x, a = some x ∧ ∀ i : Nat, ∀ h : i < fs.length, w.cell? (x.add (i * 4)) = some (.int .u8 (fs[i].k : Int)) ∧ w.cell? ⟨(x.add (i * 4)).block, (x.add (i * 4)).off + 1, none⟩ = some (.int .u64 (fs[i].n : Int)) ∧ w.cell? ⟨(x.add (i * 4)).block, (x.add (i * 4)).off + 2, none⟩ = some (.string (txt fs[i].s)) ∧ w.cell? ⟨(x.add (i * 4)).block, (x.add (i * 4)).off + 3, none⟩ = some (.int .i64 fs[i].most)
theorem FRow.below {w w1 : World} {a : Option Addr} {l : List Fd} (h : FRow w a l) (hb : Below w.heap.size w w1) : FRow w1 a l := by
  rcases h with h | ⟨x, hx, hc⟩
  · exact .inl h
  · refine .inr ⟨x, hx, fun i hi => ?_⟩
    obtain ⟨h0, h1, h2, h3⟩ := hc i hi
    exact ⟨(hb.cell (World.block_lt_of_cell? w _ h0)).trans h0, (hb.cell (World.block_lt_of_cell? w _ h1)).trans h1, (hb.cell (World.block_lt_of_cell? w _ h2)).trans h2, (hb.cell (World.block_lt_of_cell? w _ h3)).trans h3⟩
theorem FRow.take {w : World} {a : Option Addr} {l : List Fd} (h : FRow w a l) (k : Nat) : FRow w a (l.take k) := by
  rcases h with rfl | ⟨x, rfl, hc⟩
  · exact .inl (by simp)
  · refine .inr ⟨x, rfl, fun i hi => ?_⟩
    simp only [List.length_take] at hi
    have := hc i (by omega)
    rw [List.getElem_take]
    exact this
theorem sl_hiF {P : Program} {t : TypeId} (z : Nat) (ht : P.underlying t = some (.slice (P.elem t))) (hs : ∀ w, (sizeOf (P.elem t)).run P w = .ok z w) (a : Option Addr) (n c k : Nat) (hk : k ≤ c) (w : World) :
    (Instr.slice t (.slice a n c) none (some (.int .i64 (k : Int))) none).run P w = .ok (.slice a k c) w := by
  rw [run_slice_h w t a n c ht .i64 k (by omega) (by omega), hs]
  have e : (a.map fun x : Addr => x.add (0 * z)) = a := by cases a <;> simp [Addr.add]
  show Result.ok (sliced a 0 k c z) w = _
  unfold sliced
  rw [e]
  simp
theorem sizeF : ∀ w, (sizeOf (Try.prog.elem 22)).run Try.prog w = .ok 4 w := fun _ => by kernel_rfl
/-- The fields that count. -/
def shortF (l : List Fd) : List Fd := l.take 200
theorem shortF_len (l : List Fd) : (shortF l).length = min l.length 200 := by unfold shortF; rw [List.length_take, Nat.min_comm]
set_option maxRecDepth 100000 in
theorem short_f_calls (a : Option Addr) (c : Nat) (l : List Fd) (w : World) (hc : l.length ≤ c) (hm : c ≤ 9223372036854775807) :
    Calls Try.prog 10 #[.slice a l.length c] w fun e w' => e = .returned (.slice a (shortF l).length c) ∧ w' = w := by
  have hlen := shortF_len l
  obtain ⟨k, hk⟩ : ∃ k, k = (shortF l).length := ⟨_, rfl⟩
  rw [← hk] at hlen ⊢
  have hsh := fun w => sl_hiF (P := Try.prog) (t := 22) 4 Try.underlying22 sizeF a l.length c k (by omega) w
  clear hk
  by_cases h2 : l.length ≤ 200
  · obtain rfl : k = l.length := by omega
    have hd : (l.length : Int) ≤ 200 := by omega
    clear hlen
    go_enter Try.func10, Try.ntmps10
    go_wp2_with fail
    go_ret
    exact ⟨rfl, rfl⟩
  · obtain rfl : k = 200 := by omega
    have hd : ¬ (l.length : Int) ≤ 200 := by omega
    clear hlen
    go_enter Try.func10, Try.ntmps10
    go_wp2_with fail
    go_ret
    exact ⟨rfl, rfl⟩
/-- What long counts. -/
def countF (l : List Fd) : Nat := (l.map fun f => min f.s.length 65536).sum
def longF (l : List Fd) : Bool := decide (65536 < countF (shortF l))
theorem countF_le (l : List Fd) : countF l ≤ 65536 * l.length := by
  induction l with
  | nil => exact Nat.le_refl _
  | cons x xs ih =>
    unfold countF at ih ⊢
    rw [List.map_cons, List.sum_cons, List.length_cons]
    have := Nat.min_le_right x.s.length 65536
    omega
theorem countF_snoc (l : List Fd) (x : Fd) : countF (l ++ [x]) = countF l + min x.s.length 65536 := by simp [countF]
theorem txt_len (m : List UInt8) : (txt m).size = m.length := rfl
set_option maxHeartbeats 1000000 in
set_option maxRecDepth 100000 in
theorem long_f_calls (a : Option Addr) (c : Nat) (l : List Fd) (W : World) (hr : FRow W a l) (hc : l.length ≤ c) (hm : c ≤ 9223372036854775807) :
    Calls Try.prog 8 #[.slice a l.length c] W fun e w' => e = .returned (.bool (longF l)) ∧ Below W.heap.size W w' := by
  have hs := short_f_calls a c l W hc hm
  have h200 : (shortF l).length ≤ 200 := by rw [shortF_len]; omega
  obtain ⟨q, hq⟩ : ∃ q, q = shortF l := ⟨_, rfl⟩
  have hL : longF l = decide (65536 < countF q) := by rw [hq]; rfl
  have hrq : FRow W a q := by rw [hq]; exact hr.take _
  rw [← hq] at hs h200
  rw [hL]
  have G := Lib.hid (And.intro hs hrq)
  clear hs hrq hr hL hq hc hm
  go_enter Try.func8, Try.ntmps8
  go_wp2_with fail
  refine G.out.1.mono ?_
  rintro e w1 ⟨rfl, rfl⟩
  go_wp2_with fail
  go_loopw [3, 9] (fun n i wr => ∃ k : Nat, k ≤ q.length ∧ i = .int .i64 (k : Int) ∧ n = .int .i64 (countF (q.take k) : Int) ∧ Below w1.heap.size w1 wr) (fun _ i _ => q.length - (intOf i).toNat)
  case atStart => exact ⟨0, by omega, rfl, rfl, Below.refl _ _⟩
  case round =>
    obtain ⟨k, hk, rfl, rfl, hb⟩ := hrel
    by_cases hlt : k < q.length
    · obtain ⟨y, rfl, hcs⟩ : ∃ y, a = some y ∧ ∀ i : Nat, ∀ h : i < q.length, _ := (G.out.2.below hb).resolve_left (fun h => by rw [h] at hlt; simp at hlt)
      obtain ⟨c0, c1, c2, c3⟩ := hcs k hlt
      obtain ⟨f, hf⟩ : ∃ f, f = q[k] := ⟨_, rfl⟩
      rw [← hf] at c0 c1 c2 c3
      have hsz := txt_size f.s
      have hst : countF (q.take (k + 1)) = countF (q.take k) + min f.s.length 65536 := by rw [List.take_succ_eq_append_getElem hlt, countF_snoc, hf]
      have hle := countF_le (q.take k)
      rw [List.length_take, Nat.min_eq_left hk] at hle
      obtain ⟨n, hn⟩ : ∃ n, n = countF (q.take k) := ⟨_, rfl⟩
      rw [← hn] at hst hle ⊢
      obtain ⟨S, hS⟩ : ∃ S, S = txt f.s := ⟨_, rfl⟩
      rw [← hS] at c2 hsz
      have H := Lib.hid (And.intro hst hb)
      clear hst hb hn hS hcs hf
      go_wp2_with fail
      refine ⟨⟨k + 1, by omega, by go_num, ?_, H.out.2.alloc H.out.2.size _⟩, by (first | (simp [intOf]; done) | (simp [intOf]; omega))⟩
      rw [H.out.1]
      congr 1
      split <;> omega
    · obtain rfl : k = q.length := by omega
      rw [List.take_length]
      have hle := countF_le q
      obtain ⟨n, hn⟩ : ∃ n, n = countF q := ⟨_, rfl⟩
      rw [← hn] at hle ⊢
      have hd : decide ((65536 : Int) < (n : Int)) = decide (65536 < n) := by rw [decide_eq_decide]; omega
      have H := Lib.hid (And.intro hb hn)
      clear hn hb
      go_wp2_with fail
      go_ret
      exact ⟨by rw [← H.out.2]; rfl, H.out.1⟩
end Go.Proofs.Ytinilglljjffjaa.Cd
