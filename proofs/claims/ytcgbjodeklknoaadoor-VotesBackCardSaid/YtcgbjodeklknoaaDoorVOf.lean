/- The walks of the votes of a set, and of who votes. -/
import Derived.Test.YtcgbjodeklknoaaDoorVotesPlain
import Derived.Deep.RegionHeld3
namespace Go.Proofs.YtcgbjodeklknoaaDoor.Vo
set_option linter.unusedVariables false
set_option linter.unusedSimpArgs false
open Go.RowKit
open Go.Proofs.YtcgbjodeklknoaaDoor.Bit

/-- A configuration, as a walk is told of it. -/
structure Cf where
  e : Nat
  r : Nat
  q : Nat
  v0 : Nat
  v1 : Nat
  v2 : Nat
  v3 : Nat
  v4 : Nat
  v5 : Nat
  v6 : Nat
  v7 : Nat
def Cf.cells (c : Cf) : List Value := [.int .u32 (c.e : Int), .int .u8 (c.r : Int), .int .u8 (c.q : Int), .int .u8 (c.v0 : Int), .int .u8 (c.v1 : Int), .int .u8 (c.v2 : Int), .int .u8 (c.v3 : Int), .int .u8 (c.v4 : Int), .int .u8 (c.v5 : Int), .int .u8 (c.v6 : Int), .int .u8 (c.v7 : Int)]
def Cf.val (c : Cf) : Value := .agg #[.int .u32 (c.e : Int), .int .u8 (c.r : Int), .int .u8 (c.q : Int), .int .u8 (c.v0 : Int), .int .u8 (c.v1 : Int), .int .u8 (c.v2 : Int), .int .u8 (c.v3 : Int), .int .u8 (c.v4 : Int), .int .u8 (c.v5 : Int), .int .u8 (c.v6 : Int), .int .u8 (c.v7 : Int)]
def Cf.V (c : Cf) : List Nat := [c.v0, c.v1, c.v2, c.v3, c.v4, c.v5, c.v6, c.v7]
structure Cf.Ok (c : Cf) : Prop where
  e : c.e < 4294967296
  r : c.r < 256
  q : c.q < 256
  v : ∀ x ∈ c.V, x < 256
theorem lt8 {k : Nat} (h : k < 8) : k = 0 ∨ k = 1 ∨ k = 2 ∨ k = 3 ∨ k = 4 ∨ k = 5 ∨ k = 6 ∨ k = 7 := by omega
theorem Cf.len (c : Cf) : c.V.length = 8 := rfl
theorem Cf.Ok.get {c : Cf} (h : c.Ok) (k : Nat) : c.V.getD k 0 < 256 := by
  by_cases hk : k < c.V.length
  · rw [List.getD_eq_getElem?_getD, List.getElem?_eq_getElem hk]
    exact h.v _ (List.getElem_mem hk)
  · rw [List.getD_eq_getElem?_getD, List.getElem?_eq_none (by omega)]
    decide
theorem take_next (l : List Nat) (k : Nat) (h : k < l.length) : l.take (k + 1) = l.take k ++ [l.getD k 0] := by
  rw [List.take_succ_eq_append_getElem h, List.getD_eq_getElem?_getD, List.getElem?_eq_getElem h]; rfl
theorem of_le (l : List Nat) (h : ∀ x ∈ l, x < 256) (s : Nat) : of l s ≤ 255 * l.length := by
  induction l generalizing s with
  | nil => exact Nat.le_refl _
  | cons v vs ih =>
    have h1 := ih (fun x hx => h x (List.mem_cons_of_mem _ hx)) (s / 2)
    have h2 := h v List.mem_cons_self
    simp only [of, List.length_cons]
    split <;> omega
theorem index_vote (c : Cf) (k : Nat) (h : k < 8) (w : World) :
    (Instr.index 23 (.agg #[.int .u8 (c.v0 : Int), .int .u8 (c.v1 : Int), .int .u8 (c.v2 : Int), .int .u8 (c.v3 : Int), .int .u8 (c.v4 : Int), .int .u8 (c.v5 : Int), .int .u8 (c.v6 : Int), .int .u8 (c.v7 : Int)]) (.int .i64 (k : Int))).run Tryd.prog w = .ok (.int .u8 (c.V.getD k 0 : Int)) w := by
  rcases lt8 h with rfl | rfl | rfl | rfl | rfl | rfl | rfl | rfl <;> kernel_rfl

theorem bit_prog (s k : Nat) (hs : s < 18446744073709551616) : Go.bits .and .u64 ((s : Int) / 2 ^ k) 1 = if s.testBit k = true then 1 else 0 := by
  have e : (s : Int) / 2 ^ k = ((s / 2 ^ k : Nat) : Int) := by rw [Int.natCast_ediv, Int.natCast_pow]; rfl
  have hle : s / 2 ^ k ≤ s := Nat.div_le_self _ _
  rw [e, and_one _ (by omega), Nat.testBit_eq_decide_div_mod_eq]
  generalize s / 2 ^ k = x
  by_cases h : x % 2 = 1
  · rw [decide_eq_true h, if_pos rfl]; omega
  · rw [decide_eq_false h, if_neg (by decide)]; omega
theorem of_prog (n v s k : Nat) (hs : s < 18446744073709551616) (hn : n ≤ 2040) (hv : v < 256) : wrap64 ((n : Int) + wrap64 ((v : Int) * wrap64 (Go.bits .and .u64 ((s : Int) / 2 ^ k) 1))) = ((n + (if s.testBit k = true then v else 0) : Nat) : Int) := by
  rw [bit_prog s k hs]
  cases s.testBit k
  · have : wrap64 (if false = true then 1 else 0) = 0 := by rw [if_neg (by decide)]; unfold wrap64; omega
    rw [this, Int.mul_zero]
    unfold wrap64
    simp
    omega
  · have : wrap64 (if true = true then 1 else 0) = 1 := by rw [if_pos rfl]; unfold wrap64; omega
    rw [this, Int.mul_one]
    unfold wrap64
    simp
    omega

theorem vof_calls (c : Cf) (hc : c.Ok) (s : Nat) (hs : s < 18446744073709551616) (w : World) :
    Calls Tryd.prog 21 #[c.val, .int .u64 (s : Int)] w fun e w' => e = .returned (.int .i64 (of c.V s : Int)) ∧ Below w.heap.size w w' := by
  have hb : Below w.heap.size w (w.alloc (.cells #[.int .u32 (c.e : Int), .int .u8 (c.r : Int), .int .u8 (c.q : Int), .int .u8 (c.v0 : Int), .int .u8 (c.v1 : Int), .int .u8 (c.v2 : Int), .int .u8 (c.v3 : Int), .int .u8 (c.v4 : Int), .int .u8 (c.v5 : Int), .int .u8 (c.v6 : Int), .int .u8 (c.v7 : Int)] 25)) := (Below.refl _ _).alloc (Nat.le_refl _) _
  have HB := Lib.hid (And.intro hb hc)
  clear hb hc
  unfold Cf.val
  go_enter Tryd.func21, Tryd.ntmps21
  go_wp2_with fail
  go_loop [5, 6, 7, 10] (fun n _ _ i => ∃ k : Nat, k ≤ 8 ∧ i = .int .i64 (k : Int) ∧ n = .int .i64 (of (c.V.take k) s : Int)) (fun _ _ _ i => 8 - (intOf i).toNat)
  case atStart => exact ⟨0, by omega, rfl, rfl⟩
  case round =>
    obtain ⟨k, hk, rfl, rfl⟩ := hrel
    by_cases hlt : k < 8
    · have hix := index_vote c k hlt
      have hof := of_append (c.V.take k) (c.V.getD k 0) s
      rw [← take_next c.V k hlt] at hof
      have hle := of_le (c.V.take k) (fun x hx => HB.out.2.v x (List.take_subset _ _ hx)) s
      have hl8 : (c.V.take k).length = k := by rw [List.length_take, Cf.len]; omega
      rw [hl8] at hof hle
      have hvl := HB.out.2.get k
      obtain ⟨n, hn⟩ : ∃ n, n = of (c.V.take k) s := ⟨_, rfl⟩
      obtain ⟨v, hv⟩ : ∃ v, v = c.V.getD k 0 := ⟨_, rfl⟩
      rw [← hn] at hof hle ⊢
      rw [← hv] at hix hof hvl
      have HO := Lib.hid (And.intro hof (And.intro hn hv))
      clear hof hn hv
      have hrel2 := of_prog n v s k hs (by omega) hvl
      rw [← HO.out.1] at hrel2
      have HR := Lib.hid hrel2
      clear hrel2
      go_wp2_with fail
      go_round
      case rel => exact ⟨k + 1, by omega, by go_num, by rw [HR.out]⟩
      case measure => (first | (simp [intOf]; done) | (simp [intOf]; omega))
    · obtain rfl : k = 8 := by omega
      go_wp2_with fail
      go_ret
      exact ⟨rfl, HB.out.1⟩
/-- The block of a configuration that was handed over. -/
theorem below_box (c : Cf) (w : World) : Below w.heap.size w (w.alloc (.cells #[.int .u32 (c.e : Int), .int .u8 (c.r : Int), .int .u8 (c.q : Int), .int .u8 (c.v0 : Int), .int .u8 (c.v1 : Int), .int .u8 (c.v2 : Int), .int .u8 (c.v3 : Int), .int .u8 (c.v4 : Int), .int .u8 (c.v5 : Int), .int .u8 (c.v6 : Int), .int .u8 (c.v7 : Int)] 25)) := (Below.refl _ _).alloc (Nat.le_refl _) _
theorem total_eq (c : Cf) : of c.V 255 = c.V.sum := of_full _ _ (fun i hi => by
  rw [Cf.len] at hi
  rcases lt8 hi with rfl | rfl | rfl | rfl | rfl | rfl | rfl | rfl <;> decide)
theorem vtotal_calls (c : Cf) (hc : c.Ok) (w : World) :
    Calls Tryd.prog 17 #[c.val] w fun e w' => e = .returned (.int .i64 (c.V.sum : Int)) ∧ Below w.heap.size w w' := by
  have hof := vof_calls c hc 255 (by omega) (w.alloc (.cells #[.int .u32 (c.e : Int), .int .u8 (c.r : Int), .int .u8 (c.q : Int), .int .u8 (c.v0 : Int), .int .u8 (c.v1 : Int), .int .u8 (c.v2 : Int), .int .u8 (c.v3 : Int), .int .u8 (c.v4 : Int), .int .u8 (c.v5 : Int), .int .u8 (c.v6 : Int), .int .u8 (c.v7 : Int)] 25))
  rw [total_eq] at hof
  have HB := Lib.hid (And.intro (below_box c w) hof)
  clear hof
  unfold Cf.val
  go_enter Tryd.func17, Tryd.ntmps17
  go_wp2_with fail
  refine HB.out.2.mono ?_
  rintro e w' ⟨rfl, hb⟩
  have H2 := Lib.hid (HB.out.1.trans (hb.mono HB.out.1.size))
  clear hb
  go_wp2_with fail
  go_ret
  exact ⟨rfl, H2.out⟩
theorem voters_prog (a k v : Nat) (ha : a < 18446744073709551616) (hk : k < 8) : Go.bits .or .u64 (a : Int) (IntKind.u64.wrap (2 ^ k)) = ((a ||| 2 ^ k : Nat) : Int) := by
  have hp : 2 ^ k ≤ 2 ^ 8 := Nat.pow_le_pow_right (by decide) (by omega)
  have e : IntKind.u64.wrap (2 ^ k) = ((2 ^ k : Nat) : Int) := by
    rw [Bit.wrap_u64, show (2 : Int) ^ k = ((2 ^ k : Nat) : Int) from by rw [Int.natCast_pow]; rfl]
    generalize 2 ^ k = x at hp
    omega
  rw [e, bits_or_u64_nat a _ ha (by omega)]
theorem voters_lt64 (l : List Nat) (h : l.length ≤ 8) : voters l < 256 := by
  have h1 := voters_lt l
  have h2 : 2 ^ l.length ≤ 2 ^ 8 := Nat.pow_le_pow_right (by decide) h
  omega
theorem vvoters_calls (c : Cf) (hc : c.Ok) (w : World) :
    Calls Tryd.prog 19 #[c.val] w fun e w' => e = .returned (.int .u64 (voters c.V : Int)) ∧ Below w.heap.size w w' := by
  have HB := Lib.hid (And.intro (below_box c w) hc)
  clear hc
  unfold Cf.val
  go_enter Tryd.func19, Tryd.ntmps19
  go_wp2_with fail
  go_loop [3, 4, 5, 8] (fun n _ _ i => ∃ k : Nat, k ≤ 8 ∧ i = .int .i64 (k : Int) ∧ n = .int .u64 (voters (c.V.take k) : Int)) (fun _ _ _ i => 8 - (intOf i).toNat)
  case atStart => exact ⟨0, by omega, rfl, rfl⟩
  case round =>
    obtain ⟨k, hk, rfl, rfl⟩ := hrel
    by_cases hlt : k < 8
    · have hix := index_vote c k hlt
      have hof := voters_append (c.V.take k) (c.V.getD k 0)
      rw [← take_next c.V k hlt] at hof
      have hl8 : (c.V.take k).length = k := by rw [List.length_take, Cf.len]; omega
      have hle := voters_lt64 (c.V.take k) (by omega)
      rw [hl8] at hof
      have hvl := HB.out.2.get k
      obtain ⟨n, hn⟩ : ∃ n, n = voters (c.V.take k) := ⟨_, rfl⟩
      obtain ⟨v, hv⟩ : ∃ v, v = c.V.getD k 0 := ⟨_, rfl⟩
      rw [← hn] at hof hle ⊢
      rw [← hv] at hix hof hvl
      have hp := voters_prog n k v (by omega) hlt
      by_cases h0 : 0 < v
      · rw [if_pos h0] at hof
        rw [← hof] at hp
        have HO := Lib.hid hp
        clear hof hn hv hp
        go_wp2_with fail
        go_round
        case rel => exact ⟨k + 1, by omega, by go_num, by rw [← HO.out]⟩
        case measure => (first | (simp [intOf]; done) | (simp [intOf]; omega))
      · rw [if_neg h0] at hof
        have HO := Lib.hid hof
        have hv0 : v = 0 := by omega
        clear hof hn hv hp h0 hvl
        subst hv0
        go_wp2_with fail
        go_round
        case rel => exact ⟨k + 1, by omega, by go_num, by rw [HO.out]⟩
        case measure => (first | (simp [intOf]; done) | (simp [intOf]; omega))
    · obtain rfl : k = 8 := by omega
      go_wp2_with fail
      go_ret
      exact ⟨rfl, HB.out.1⟩
/-- The block b holds a configuration. -/
def BoxS (b : Nat) (c : Cf) (w : World) : Prop := w.cell? ⟨b, 0, none⟩ = some (.int .u32 (c.e : Int)) ∧ w.cell? ⟨b, 1, none⟩ = some (.int .u8 (c.r : Int)) ∧ w.cell? ⟨b, 2, none⟩ = some (.int .u8 (c.q : Int)) ∧ w.cell? ⟨b, 3, none⟩ = some (.int .u8 (c.v0 : Int)) ∧ w.cell? ⟨b, 4, none⟩ = some (.int .u8 (c.v1 : Int)) ∧ w.cell? ⟨b, 5, none⟩ = some (.int .u8 (c.v2 : Int)) ∧ w.cell? ⟨b, 6, none⟩ = some (.int .u8 (c.v3 : Int)) ∧ w.cell? ⟨b, 7, none⟩ = some (.int .u8 (c.v4 : Int)) ∧ w.cell? ⟨b, 8, none⟩ = some (.int .u8 (c.v5 : Int)) ∧ w.cell? ⟨b, 9, none⟩ = some (.int .u8 (c.v6 : Int)) ∧ w.cell? ⟨b, 10, none⟩ = some (.int .u8 (c.v7 : Int))
theorem boxS_new (c : Cf) (w : World) : BoxS w.heap.size c (w.alloc (.cells #[.int .u32 (c.e : Int), .int .u8 (c.r : Int), .int .u8 (c.q : Int), .int .u8 (c.v0 : Int), .int .u8 (c.v1 : Int), .int .u8 (c.v2 : Int), .int .u8 (c.v3 : Int), .int .u8 (c.v4 : Int), .int .u8 (c.v5 : Int), .int .u8 (c.v6 : Int), .int .u8 (c.v7 : Int)] 25)) := by
  have h : ∀ i v, c.cells[i]? = some v → (w.alloc (.cells c.cells.toArray 25)).cell? ⟨w.heap.size, i, none⟩ = some v := by
    intro i v hi
    have := cell_block (i := i) (heap_alloc_new w (.cells c.cells.toArray 25))
    by_cases h0 : i = 0
    · subst h0; simp only [Addr.add, if_true] at this; rw [← hi, this]; rfl
    · simp only [Addr.add, h0, if_false] at this; rw [← hi, ← List.getElem?_toArray, ← this]; simp
  exact ⟨h 0 _ rfl, h 1 _ rfl, h 2 _ rfl, h 3 _ rfl, h 4 _ rfl, h 5 _ rfl, h 6 _ rfl, h 7 _ rfl, h 8 _ rfl, h 9 _ rfl, h 10 _ rfl⟩
theorem BoxS.drew {b : Nat} {c : Cf} {w : World} (h : BoxS b c w) : BoxS b c w.drew := h
theorem BoxS.below {b : Nat} {c : Cf} {w w' : World} (h : BoxS b c w) (hb : Below w.heap.size w w') : BoxS b c w' := by
  have k : ∀ i v, w.cell? ⟨b, i, none⟩ = some v → w'.cell? ⟨b, i, none⟩ = some v := fun i v h => (hb.cell (p := ⟨b, i, none⟩) (World.block_lt_of_cell? w _ h)).trans h
  obtain ⟨h0, h1, h2, h3, h4, h5, h6, h7, h8, h9, h10⟩ := h
  exact ⟨k _ _ h0, k _ _ h1, k _ _ h2, k _ _ h3, k _ _ h4, k _ _ h5, k _ _ h6, k _ _ h7, k _ _ h8, k _ _ h9, k _ _ h10⟩
/-- The votes of a set, where a configuration's block lies behind the world w. -/
theorem vof_from {w W : World} (hW : Below w.heap.size w W) (b : Nat) (c : Cf) (hS : BoxS b c W) (hc : c.Ok) (s : Nat) (hs : s < 18446744073709551616) (n : Nat) (hn : n = of c.V s) :
    Calls Tryd.prog 21 #[.agg #[.int .u32 (c.e : Int), .int .u8 (c.r : Int), .int .u8 (c.q : Int), .int .u8 (c.v0 : Int), .int .u8 (c.v1 : Int), .int .u8 (c.v2 : Int), .int .u8 (c.v3 : Int), .int .u8 (c.v4 : Int), .int .u8 (c.v5 : Int), .int .u8 (c.v6 : Int), .int .u8 (c.v7 : Int)], .int .u64 (s : Int)] W fun e w' => e = .returned (.int .i64 (n : Int)) ∧ Below w.heap.size w w' ∧ Hid (BoxS b c w') := by
  subst hn
  exact (vof_calls c hc s hs W).mono fun _ _ ⟨he, hb⟩ => ⟨he, hW.trans (hb.mono hW.size), Lib.hid (hS.below hb)⟩
theorem vreads_calls (c : Cf) (hc : c.Ok) (s : Nat) (hs : s < 18446744073709551616) (w : World) :
    Calls Tryd.prog 22 #[c.val, .int .u64 (s : Int)] w fun e w' => e = .returned (.bool (decide (c.r ≤ of c.V s))) ∧ Below w.heap.size w w' := by
  have hq := hc.r
  have hB := below_box c w
  have hS := boxS_new c w
  have hW : IntKind.i64.wrap (c.r : Int) = (c.r : Int) := by rw [IntKind.wrap_i64]; omega
  have HC := Lib.hid hc
  clear hc
  obtain ⟨n, hn⟩ : ∃ n, n = of c.V s := ⟨_, rfl⟩
  rw [← hn]
  have HN := Lib.hid hn
  clear hn
  unfold Cf.val
  go_enter Tryd.func22, Tryd.ntmps22
  go_wp2_with fail
  generalize w.alloc (.cells #[.int .u32 (c.e : Int), .int .u8 (c.r : Int), .int .u8 (c.q : Int), .int .u8 (c.v0 : Int), .int .u8 (c.v1 : Int), .int .u8 (c.v2 : Int), .int .u8 (c.v3 : Int), .int .u8 (c.v4 : Int), .int .u8 (c.v5 : Int), .int .u8 (c.v6 : Int), .int .u8 (c.v7 : Int)] 25) = w1 at hB hS ⊢
  go_region_held3 (fun W => W.cell? ⟨w.heap.size, 0, none⟩ = some (.int .u32 (c.e : Int)) ∧ W.cell? ⟨w.heap.size, 1, none⟩ = some (.int .u8 (c.r : Int)) ∧ W.cell? ⟨w.heap.size, 2, none⟩ = some (.int .u8 (c.q : Int)) ∧ W.cell? ⟨w.heap.size, 3, none⟩ = some (.int .u8 (c.v0 : Int)) ∧ W.cell? ⟨w.heap.size, 4, none⟩ = some (.int .u8 (c.v1 : Int)) ∧ W.cell? ⟨w.heap.size, 5, none⟩ = some (.int .u8 (c.v2 : Int)) ∧ W.cell? ⟨w.heap.size, 6, none⟩ = some (.int .u8 (c.v3 : Int)) ∧ W.cell? ⟨w.heap.size, 7, none⟩ = some (.int .u8 (c.v4 : Int)) ∧ W.cell? ⟨w.heap.size, 8, none⟩ = some (.int .u8 (c.v5 : Int)) ∧ W.cell? ⟨w.heap.size, 9, none⟩ = some (.int .u8 (c.v6 : Int)) ∧ W.cell? ⟨w.heap.size, 10, none⟩ = some (.int .u8 (c.v7 : Int))) (first | exact hS.drew | exact hb3.out) (first | (go_at_call 21; ((with_reducible refine (vof_from (w := w) hB.drew w.heap.size c hS.drew HC.out s hs n HN.out).mono ?_); rintro e w' ⟨rfl, hb2, hb3⟩)))
  go_wp2_with fail
  go_ret
  refine ⟨?_, hb2⟩
  simp
theorem vwrites_calls (c : Cf) (hc : c.Ok) (s : Nat) (hs : s < 18446744073709551616) (w : World) :
    Calls Tryd.prog 23 #[c.val, .int .u64 (s : Int)] w fun e w' => e = .returned (.bool (decide (c.q ≤ of c.V s))) ∧ Below w.heap.size w w' := by
  have hq := hc.q
  have hB := below_box c w
  have hS := boxS_new c w
  have hW : IntKind.i64.wrap (c.q : Int) = (c.q : Int) := by rw [IntKind.wrap_i64]; omega
  have HC := Lib.hid hc
  clear hc
  obtain ⟨n, hn⟩ : ∃ n, n = of c.V s := ⟨_, rfl⟩
  rw [← hn]
  have HN := Lib.hid hn
  clear hn
  unfold Cf.val
  go_enter Tryd.func23, Tryd.ntmps23
  go_wp2_with fail
  generalize w.alloc (.cells #[.int .u32 (c.e : Int), .int .u8 (c.r : Int), .int .u8 (c.q : Int), .int .u8 (c.v0 : Int), .int .u8 (c.v1 : Int), .int .u8 (c.v2 : Int), .int .u8 (c.v3 : Int), .int .u8 (c.v4 : Int), .int .u8 (c.v5 : Int), .int .u8 (c.v6 : Int), .int .u8 (c.v7 : Int)] 25) = w1 at hB hS ⊢
  go_region_held3 (fun W => W.cell? ⟨w.heap.size, 0, none⟩ = some (.int .u32 (c.e : Int)) ∧ W.cell? ⟨w.heap.size, 1, none⟩ = some (.int .u8 (c.r : Int)) ∧ W.cell? ⟨w.heap.size, 2, none⟩ = some (.int .u8 (c.q : Int)) ∧ W.cell? ⟨w.heap.size, 3, none⟩ = some (.int .u8 (c.v0 : Int)) ∧ W.cell? ⟨w.heap.size, 4, none⟩ = some (.int .u8 (c.v1 : Int)) ∧ W.cell? ⟨w.heap.size, 5, none⟩ = some (.int .u8 (c.v2 : Int)) ∧ W.cell? ⟨w.heap.size, 6, none⟩ = some (.int .u8 (c.v3 : Int)) ∧ W.cell? ⟨w.heap.size, 7, none⟩ = some (.int .u8 (c.v4 : Int)) ∧ W.cell? ⟨w.heap.size, 8, none⟩ = some (.int .u8 (c.v5 : Int)) ∧ W.cell? ⟨w.heap.size, 9, none⟩ = some (.int .u8 (c.v6 : Int)) ∧ W.cell? ⟨w.heap.size, 10, none⟩ = some (.int .u8 (c.v7 : Int))) (first | exact hS.drew | exact hb3.out) (first | (go_at_call 21; ((with_reducible refine (vof_from (w := w) hB.drew w.heap.size c hS.drew HC.out s hs n HN.out).mono ?_); rintro e w' ⟨rfl, hb2, hb3⟩)))
  go_wp2_with fail
  go_ret
  refine ⟨?_, hb2⟩
  simp
end Go.Proofs.YtcgbjodeklknoaaDoor.Vo
