/- The walks of the reference's reader: its state, New, wrong, a number, a byte. What is said of it is weak: it returns, and its state stays in bounds. -/
import Derived.Test.YtinilglljjffjaaCOwnH
namespace Go.Proofs.Ytinilglljjffjaa.Cd
set_option linter.unusedVariables false
set_option linter.unusedSimpArgs false
open Go.RowKit
open Go.Proofs.Ytinilglljjffjaa.Num

/-- The reference's 2 to the n. -/
theorem power_calls (n : Nat) (hn : n ≤ 63) (w : World) :
    Calls Try.prog 59 #[.int .i64 (n : Int)] w fun e w' => e = .returned (.int .u64 ((2 ^ n : Nat) : Int)) ∧ w = w' := by
  have H := Lib.hid hn
  clear hn
  go_enter Try.func59, Try.ntmps59
  go_wp2_with fail
  go_loop [3, 4] (fun x i => ∃ k : Nat, k ≤ n ∧ i = .int .i64 (k : Int) ∧ x = .int .u64 ((2 ^ k : Nat) : Int)) (fun _ i => n - (intOf i).toNat)
  case atStart => exact ⟨0, by omega, rfl, rfl⟩
  case round =>
    obtain ⟨k, hk, rfl, rfl⟩ := hrel
    by_cases hlt : k < n
    · have e := Lib.hid (pow_next k (by have := H.out; omega))
      have hb : k + 1 ≤ 64 := by have := H.out; omega
      go_wp2_with fail
      go_round
      case rel => exact ⟨k + 1, by omega, by go_num, by rw [← e.out]; rfl⟩
      case measure => (first | (simp [intOf]; done) | (simp [intOf]; omega))
    · obtain rfl : k = n := by omega
      go_wp2_with fail
      go_ret
      exact ⟨rfl, rfl⟩
/-- A reader's block g. -/
structure Qst (g : Nat) (A : Option Addr) (c : Nat) (l : List UInt8) (s : Rs) (W : World) : Prop where
  box : W.heap[g]? = some (.cells #[.slice A l.length c, .int .i64 (s.at_ : Int), .int .i64 (s.why : Int), .int .i64 (s.fat : Int)] 45 (0, 0))
  row : Row8 W A l
  cap : l.length ≤ c
  big : c ≤ 9223372036854775807
  nul : A = none → c = 0
  far : ∀ x, A = some x → x.block < g
  at_ : s.at_ ≤ l.length
  fat : s.fat ≤ l.length
  why : s.why ≤ 17
theorem Qst.below {g : Nat} {A : Option Addr} {c : Nat} {l : List UInt8} {s : Rs} {W W' : World} (h : Qst g A c l s W) (hb : Below W.heap.size W W') : Qst g A c l s W' :=
  ⟨(hb.block g (Array.getElem?_eq_some_iff.1 h.box).1).trans h.box, h.row.below hb, h.cap, h.big, h.nul, h.far, h.at_, h.fat, h.why⟩
theorem Qst.drew {g : Nat} {A : Option Addr} {c : Nat} {l : List UInt8} {s : Rs} {W : World} (h : Qst g A c l s W) : Qst g A c l s W.drew := ⟨h.box, h.row, h.cap, h.big, h.nul, h.far, h.at_, h.fat, h.why⟩
theorem Qst.cells {g : Nat} {A : Option Addr} {c : Nat} {l : List UInt8} {s : Rs} {W : World} (h : Qst g A c l s W) :
    W.cell? ⟨g, 0, none⟩ = some (.slice A l.length c) ∧ W.cell? ⟨g, 1, none⟩ = some (.int .i64 (s.at_ : Int)) ∧ W.cell? ⟨g, 2, none⟩ = some (.int .i64 (s.why : Int)) ∧ W.cell? ⟨g, 3, none⟩ = some (.int .i64 (s.fat : Int)) := by
  simp [World.cell?, h.box]
theorem Qst.free {g : Nat} {A : Option Addr} {c : Nat} {l : List UInt8} {s : Rs} {W : World} (h : Qst g A c l s W) (i : Nat) : W.frozen? ⟨g, i, none⟩ = false := by
  simp [World.frozen?, h.box]
/-- A fault is laid. -/
theorem Qst.faulted {g : Nat} {A : Option Addr} {c : Nat} {l : List UInt8} {s : Rs} {W : World} (h : Qst g A c l s W) (y f : Nat) (hy : y ≤ 17) (hf : f ≤ l.length) :
    Qst g A c l ⟨s.at_, y, f⟩ ((W.setCell ⟨g, 2, none⟩ (.int .i64 (y : Int))).setCell ⟨g, 3, none⟩ (.int .i64 (f : Int))) ∧ But g W ((W.setCell ⟨g, 2, none⟩ (.int .i64 (y : Int))).setCell ⟨g, 3, none⟩ (.int .i64 (f : Int))) := by
  have hb := (But.set (g := g) W 2 (.int .i64 (y : Int))).trans (But.set (g := g) _ 3 (.int .i64 (f : Int)))
  refine ⟨⟨?_, hb.row h.row h.far, h.cap, h.big, h.nul, h.far, h.at_, hf, hy⟩, hb⟩
  have := block_set (i := 3) (block_set (i := 2) h.box (.int .i64 (y : Int))) (.int .i64 (f : Int))
  simpa using this
/-- The reader goes on. -/
theorem Qst.moved {g : Nat} {A : Option Addr} {c : Nat} {l : List UInt8} {s : Rs} {W : World} (h : Qst g A c l s W) (a : Nat) (ha : a ≤ l.length) :
    Qst g A c l ⟨a, s.why, s.fat⟩ (W.setCell ⟨g, 1, none⟩ (.int .i64 (a : Int))) ∧ But g W (W.setCell ⟨g, 1, none⟩ (.int .i64 (a : Int))) := by
  have hb := But.set (g := g) W 1 (.int .i64 (a : Int))
  refine ⟨⟨?_, hb.row h.row h.far, h.cap, h.big, h.nul, h.far, ha, h.fat, h.why⟩, hb⟩
  have := block_set (i := 1) h.box (.int .i64 (a : Int))
  simpa using this
theorem Qst.turn {g g2 : Nat} {v2 v2' : Value} {A : Option Addr} {c : Nat} {l : List UInt8} {s : Rs} {W W' : World} (h : Qst g A c l s W) (ht : Turn g2 v2 v2' W W') (hg : g ≠ g2) (h1 : v2.ownBlock ≠ some g) (h2 : ∀ x, A = some x → x.block ≠ g2 ∧ v2.ownBlock ≠ some x.block) : Qst g A c l s W' :=
  ⟨(ht.keep g (Array.getElem?_eq_some_iff.1 h.box).1 hg h1).trans h.box, Row8.turn h.row ht h2, h.cap, h.big, h.nul, h.far, h.at_, h.fat, h.why⟩
theorem u64_rng (n : Int) : 0 ≤ IntKind.u64.wrap n ∧ IntKind.u64.wrap n < 18446744073709551616 := by rw [wrap_u64]; omega
set_option maxHeartbeats 2000000 in
set_option maxRecDepth 100000 in
theorem rlong_calls (A : Option Addr) (c : Nat) (l : List UInt8) (W : World) (hr : Row8 W A l) (hm : l.length ≤ 9223372036854775807) :
    Calls Try.prog 56 #[.slice A l.length c] W fun e W' => ∃ n k y : Nat, e = .returned (.tuple #[.int .u64 (n : Int), .int .i64 (k : Int), .int .i64 (y : Int)]) ∧ n < 18446744073709551616 ∧ k ≤ l.length ∧ y ≤ 17 ∧ Below W.heap.size W W' := by
  have G := Lib.hid hr
  clear hr
  go_enter Try.func56, Try.ntmps56
  go_wp2_with fail
  go_loopw [5, 6] (fun x i wr => ∃ (z : Int) (k : Nat), 0 ≤ z ∧ z < 18446744073709551616 ∧ k ≤ l.length ∧ k ≤ 9 ∧ x = .int .u64 z ∧ i = .int .i64 (k : Int) ∧ Below W.heap.size W wr) (fun _ i _ => l.length - (intOf i).toNat)
  case atStart => exact ⟨0, 0, by decide, by decide, by omega, by omega, rfl, rfl, Below.refl _ _⟩
  case round =>
    obtain ⟨z, k, hz0, hz1, hk, hk10, rfl, rfl, hb⟩ := hrel
    by_cases hlt : k < l.length
    · obtain ⟨y, rfl, hc⟩ : ∃ y, A = some y ∧ ∀ i : Nat, ∀ h : i < l.length, wr.cell? (y.add i) = some (.int .u8 (l[i].toNat : Int)) := by
        rcases G.out.below hb with h | h
        · rw [h] at hlt; simp at hlt
        · exact h
      have c0 := hc k hlt
      obtain ⟨x, hx⟩ : ∃ x, x = l[k].toNat := ⟨_, rfl⟩
      have hx8 : x < 256 := by rw [hx]; exact l[k].toNat_lt
      rw [← hx] at c0
      have hki : (k : Int) < (l.length : Int) := by omega
      have hk0 : (0 : Int) ≤ (k : Int) := by omega
      have H := Lib.hid (And.intro hb (And.intro hz0 hz1))
      clear hc hb hx hz0 hz1
      by_cases h9 : k = 9 ∧ 1 < x
      · obtain ⟨h9, h1⟩ := h9
        have h1i : (1 : Int) < (x : Int) := by omega
        have h9i : ((k : Int) == 9) = true := by rw [beq_iff_eq]; omega
        clear h1 h9
        go_wp2_with fail
        go_ret3
        exact ⟨0, 0, 3, rfl, by decide, by omega, by decide, H.out.1⟩
      · have hp := fun w => power_calls (7 * k) (by omega) w
        have h7 : IntKind.i64.wrap (7 * (k : Int)) = ((7 * k : Nat) : Int) := by rw [IntKind.wrap_i64]; omega
        have hp7 : ∀ w, Calls Try.prog 59 #[.int .i64 (IntKind.i64.wrap (7 * (k : Int)))] w fun e w' => e = .returned (.int .u64 ((2 ^ (7 * k) : Nat) : Int)) ∧ w = w' := fun w => by rw [h7]; exact hp w
        obtain ⟨pw, hpw⟩ : ∃ pw, pw = 2 ^ (7 * k) := ⟨_, rfl⟩
        rw [← hpw] at hp7
        have HP := Lib.hid hp7
        clear hp hp7 h7 hpw
        have h9i : ((k : Int) == 9) = false ∨ ((k : Int) == 9) = true ∧ decide ((1 : Int) < (x : Int)) = false := by
          by_cases h : k = 9
          · right; exact ⟨by rw [beq_iff_eq]; omega, decide_eq_false (fun h1 => h9 ⟨h, by omega⟩)⟩
          · left; rw [beq_eq_false_iff_ne]; omega
        have hkx : 128 ≤ x → k ≤ 8 := fun h => by omega
        have HK := Lib.hid hkx
        clear h9 hkx
        rcases h9i with h9i | ⟨h9i, h1i⟩
        · go_wp2_with fail
          go_region_held3 (fun W' => W'.cell? (y.add k) = some (.int .u8 (x : Int))) (first | exact c0) (first | (go_at_call 59; ((with_reducible refine (HP.out _).mono ?_); rintro e w' ⟨rfl, rfl⟩)))
          have hZ := u64_rng (z + IntKind.u64.wrap (IntKind.u64.wrap ((x : Int).tmod 128) * (pw : Int)))
          generalize IntKind.u64.wrap (z + IntKind.u64.wrap (IntKind.u64.wrap ((x : Int).tmod 128) * (pw : Int))) = Z at hZ ⊢
          generalize IntKind.u64.wrap (IntKind.u64.wrap ((x : Int).tmod 128) * (pw : Int)) = Z2
          generalize IntKind.u64.wrap ((x : Int).tmod 128) = Z3
          generalize (x : Int).tmod 128 = Z4
          have hbd := H.out.1.drew
          have c0' : wr.drew.cell? (y.add k) = some (.int .u8 (x : Int)) := c0
          generalize wr.drew = w5 at hbd c0' ⊢
          have hs5 := hbd.size
          have H5 := Lib.hid (And.intro hbd hZ)
          clear hbd hZ c0
          by_cases h128 : x < 128
          · have h128i : (x : Int) < 128 := by omega
            clear h128
            by_cases hz : x = 0 ∧ 0 < k
            · have hzi : ((x : Int) == 0) = true := by rw [beq_iff_eq]; omega
              have hki2 : (0 : Int) < (k : Int) := by omega
              clear hz h128i
              have h128i : decide ((x : Int) < 128) = true := by rw [decide_eq_true_eq]; have := beq_iff_eq.1 hzi; omega
              go_wp2_with fail
              go_ret3
              exact ⟨0, 0, 3, rfl, by decide, by omega, by decide, H5.out.1⟩
            · have hzi : ((x : Int) == 0) = false ∨ ((x : Int) == 0) = true ∧ decide ((0 : Int) < (k : Int)) = false := by
                by_cases h : x = 0
                · right; exact ⟨by rw [beq_iff_eq]; omega, decide_eq_false (fun h1 => hz ⟨h, by omega⟩)⟩
                · left; rw [beq_eq_false_iff_ne]; omega
              have hk1 : (k : Int) + 1 ≤ 9223372036854775807 := by omega
              clear hz
              rcases hzi with hzi | ⟨hzi, hzk⟩
              · go_wp2_with fail
                go_ret3
                exact ⟨Z.toNat, k + 1, 0, by rw [Int.toNat_of_nonneg H5.out.2.1]; rfl, by have := H5.out.2; omega, by omega, by decide, H5.out.1⟩
              · have hk00 : k = 0 := by have := of_decide_eq_false hzk; omega
                subst hk00
                have c00 : w5.cell? y = some (.int .u8 (x : Int)) := by
                  have := c0'
                  simpa [Addr.add] using this
                have hl0 : (0 : Int) < (l.length : Int) := hki
                clear hzk c0' hki hk0 hk1 hk hk10
                go_wp2_with fail
                go_ret3
                exact ⟨Z.toNat, 1, 0, by rw [Int.toNat_of_nonneg H5.out.2.1]; rfl, by have := H5.out.2; omega, by omega, by decide, H5.out.1⟩
          · have h128i : ¬ (x : Int) < 128 := by omega
            have hk8 := HK.out (by omega)
            clear h128
            go_wp2_with fail
            refine ⟨⟨Z, k + 1, H5.out.2.1, H5.out.2.2, by omega, by omega, rfl, by go_num, H5.out.1⟩, by (first | (simp [intOf]; done) | (simp [intOf]; omega))⟩
        · go_wp2_with fail
          go_region_held3 (fun W' => W'.cell? (y.add k) = some (.int .u8 (x : Int))) (first | exact c0) (first | (go_at_call 59; ((with_reducible refine (HP.out _).mono ?_); rintro e w' ⟨rfl, rfl⟩)))
          have hZ := u64_rng (z + IntKind.u64.wrap (IntKind.u64.wrap ((x : Int).tmod 128) * (pw : Int)))
          generalize IntKind.u64.wrap (z + IntKind.u64.wrap (IntKind.u64.wrap ((x : Int).tmod 128) * (pw : Int))) = Z at hZ ⊢
          generalize IntKind.u64.wrap (IntKind.u64.wrap ((x : Int).tmod 128) * (pw : Int)) = Z2
          generalize IntKind.u64.wrap ((x : Int).tmod 128) = Z3
          generalize (x : Int).tmod 128 = Z4
          have hbd := H.out.1.drew
          have c0' : wr.drew.cell? (y.add k) = some (.int .u8 (x : Int)) := c0
          generalize wr.drew = w5 at hbd c0' ⊢
          have hs5 := hbd.size
          have H5 := Lib.hid (And.intro hbd hZ)
          clear hbd hZ c0
          by_cases h128 : x < 128
          · have h128i : (x : Int) < 128 := by omega
            clear h128
            by_cases hz : x = 0 ∧ 0 < k
            · have hzi : ((x : Int) == 0) = true := by rw [beq_iff_eq]; omega
              have hki2 : (0 : Int) < (k : Int) := by omega
              clear hz h128i
              have h128i : decide ((x : Int) < 128) = true := by rw [decide_eq_true_eq]; have := beq_iff_eq.1 hzi; omega
              go_wp2_with fail
              go_ret3
              exact ⟨0, 0, 3, rfl, by decide, by omega, by decide, H5.out.1⟩
            · have hzi : ((x : Int) == 0) = false ∨ ((x : Int) == 0) = true ∧ decide ((0 : Int) < (k : Int)) = false := by
                by_cases h : x = 0
                · right; exact ⟨by rw [beq_iff_eq]; omega, decide_eq_false (fun h1 => hz ⟨h, by omega⟩)⟩
                · left; rw [beq_eq_false_iff_ne]; omega
              have hk1 : (k : Int) + 1 ≤ 9223372036854775807 := by omega
              clear hz
              rcases hzi with hzi | ⟨hzi, hzk⟩
              · go_wp2_with fail
                go_ret3
                exact ⟨Z.toNat, k + 1, 0, by rw [Int.toNat_of_nonneg H5.out.2.1]; rfl, by have := H5.out.2; omega, by omega, by decide, H5.out.1⟩
              · have hk00 : k = 0 := by have := of_decide_eq_false hzk; omega
                subst hk00
                have c00 : w5.cell? y = some (.int .u8 (x : Int)) := by
                  have := c0'
                  simpa [Addr.add] using this
                have hl0 : (0 : Int) < (l.length : Int) := hki
                clear hzk c0' hki hk0 hk1 hk hk10
                go_wp2_with fail
                go_ret3
                exact ⟨Z.toNat, 1, 0, by rw [Int.toNat_of_nonneg H5.out.2.1]; rfl, by have := H5.out.2; omega, by omega, by decide, H5.out.1⟩
          · have h128i : ¬ (x : Int) < 128 := by omega
            have hk8 := HK.out (by omega)
            clear h128
            go_wp2_with fail
            refine ⟨⟨Z, k + 1, H5.out.2.1, H5.out.2.2, by omega, by omega, rfl, by go_num, H5.out.1⟩, by (first | (simp [intOf]; done) | (simp [intOf]; omega))⟩
    · obtain rfl : k = l.length := by omega
      have H := Lib.hid hb
      clear hb hz0 hz1
      go_wp2_with fail
      go_ret3
      exact ⟨0, 0, 4, rfl, by decide, by omega, by decide, H.out⟩
theorem wrong_calls (g : Nat) (A : Option Addr) (c : Nat) (l : List UInt8) (s : Rs) (W : World) (y a : Nat) (hy : y ≤ 17) (ha : a ≤ l.length) (h : Qst g A c l s W) :
    Calls Try.prog 57 #[.pointer (some ⟨g, 0, none⟩), .int .i64 (y : Int), .int .i64 (a : Int)] W fun e W' => e = .returned (.tuple #[]) ∧ ∃ s', s'.at_ = s.at_ ∧ (0 < y → 0 < s'.why) ∧ Qst g A c l s' W' ∧ But g W W' := by
  obtain ⟨_, _, k2, _⟩ := h.cells
  have f2 := h.free 2
  have f3 := h.free 3
  obtain ⟨hq, hb⟩ := h.faulted y a hy ha
  obtain ⟨b, y0, f0⟩ := s
  simp only at k2
  have G := Lib.hid (And.intro h (And.intro hq hb))
  clear h hq hb
  by_cases h0 : y0 = 0
  · have h0i : ((y0 : Int) == 0) = true := by rw [beq_iff_eq]; omega
    clear h0
    go_enter Try.func57, Try.ntmps57
    go_wp2_with fail
    go_end0
    exact ⟨rfl, ⟨b, y, a⟩, rfl, fun h => h, G.out.2.1, G.out.2.2⟩
  · have h0i : ((y0 : Int) == 0) = false := by rw [beq_eq_false_iff_ne]; omega
    have hp : 0 < y0 := by omega
    have HP := Lib.hid hp
    clear h0 hp
    go_enter Try.func57, Try.ntmps57
    go_wp2_with fail
    go_end0
    exact ⟨rfl, ⟨b, y0, f0⟩, rfl, fun _ => HP.out, G.out.1, But.of_below (Below.refl _ _)⟩
set_option maxHeartbeats 1000000 in
set_option maxRecDepth 100000 in
theorem qnum_calls (g : Nat) (A : Option Addr) (c : Nat) (l : List UInt8) (s : Rs) (most : Nat) (hmost : most < 18446744073709551616) (W : World) (h : Qst g A c l s W) :
    Calls Try.prog 37 #[.pointer (some ⟨g, 0, none⟩), .int .u64 (most : Int)] W fun e W' => ∃ (n : Nat) (s' : Rs), e = .returned (.int .u64 (n : Int)) ∧ n < 18446744073709551616 ∧ Qst g A c l s' W' ∧ But g W W' := by
  obtain ⟨k0, k1, k2, k3⟩ := h.cells
  have hat := h.at_
  have hcap := h.cap
  have hbig := h.big
  obtain ⟨a, y, f⟩ := s
  simp only at k1 k2 k3 hat
  by_cases hz : y = 0
  · have hzi : ((y : Int) != 0) = false := by rw [bne_eq_false_iff_eq]; omega
    obtain ⟨A2, hsl, hrow⟩ := sl_from (P := Try.prog) (t := 25) Try.underlying25 size8 A l.length c a (a : Int) rfl hat
    have hr2 := hrow W l rfl hcap h.row
    have hln : l.length - a = (l.drop a).length := by rw [List.length_drop]
    have hlong := rlong_calls A2 (c - a) (l.drop a) W.drew hr2 (by omega)
    rw [← hln] at hlong
    have hlong2 : Calls Try.prog 56 #[.slice A2 (l.length - a) (c - a)] W.drew fun e W' => ∃ n k y : Nat, e = .returned (.tuple #[.int .u64 (n : Int), .int .i64 (k : Int), .int .i64 (y : Int)]) ∧ (W'.cell? ⟨g, 0, none⟩ = some (.slice A l.length c) ∧ W'.cell? ⟨g, 1, none⟩ = some (.int .i64 (a : Int))) ∧ n < 18446744073709551616 ∧ k ≤ l.length - a ∧ y ≤ 17 ∧ Qst g A c l ⟨a, 0, f⟩ W' ∧ Below W.heap.size W W' := by
      refine hlong.mono ?_
      rintro e W' ⟨n, k, y2, rfl, h1, h2, h3, hb⟩
      have hb2 := (show Below W.heap.size W W.drew from (Below.refl _ _).drew).trans hb
      have hq := h.below hb2
      rw [hz] at hq
      obtain ⟨q0, q1, _, _⟩ := hq.cells
      exact ⟨n, k, y2, rfl, ⟨q0, q1⟩, h1, h2, h3, hq, hb2⟩
    have G := Lib.hid hlong2
    have HA := Lib.hid (And.intro hat (And.intro hcap hbig))
    have bA : (0 : Int) ≤ (a : Int) := by omega
    have bB : (a : Int) ≤ (l.length : Int) := by omega
    clear hlong hlong2 hrow hr2 h hcap hbig hln hz
    go_enter Try.func37, Try.ntmps37
    go_wp2_with fail
    go_region_held3 (fun W' => W'.cell? ⟨g, 0, none⟩ = some (.slice A l.length c) ∧ W'.cell? ⟨g, 1, none⟩ = some (.int .i64 (a : Int))) (first | exact ⟨k0, k1⟩ | exact s1) (first | (go_at_call 56; ((with_reducible refine (G.out).mono ?_); rintro e w' ⟨n, k, y2, rfl, s1, hn, hk, hy2, hq, hb⟩)))
    have H2 := Lib.hid (And.intro hq (And.intro hb (And.intro hn (And.intro hk hy2))))
    obtain ⟨_, q1, q2, q3⟩ := hq.cells
    have f1 := hq.free 1
    clear hq hb hn hk hy2 s1 k0 k1 k2 k3 G hsl hmost
    by_cases h2 : y2 = 0
    · have h2i : ((y2 : Int) == 0) = true := by rw [beq_iff_eq]; omega
      have h2n : ((y2 : Int) != 0) = false := by rw [bne_eq_false_iff_eq]; omega
      by_cases hm : most < n
      · have hmi : decide (most < n) = true := decide_eq_true hm
        clear h2
        go_wp2_with fail
        refine (wrong_calls g A c l ⟨a, 0, f⟩ w' 5 a (by decide) HA.out.1 H2.out.1).mono ?_
        rintro e W3 ⟨rfl, s3, _, _, hq3, hb3⟩
        have H3 := Lib.hid (And.intro hq3 ((But.of_below H2.out.2.1).trans hb3))
        clear hq3 hb3
        go_wp2_with fail
        go_ret
        exact ⟨0, s3, rfl, by decide, H3.out.1, H3.out.2⟩
      · have hmi : decide (most < n) = false := decide_eq_false hm
        obtain ⟨hq3, hb3⟩ := H2.out.1.moved (a + k) (by have := H2.out.2.2.2.1; have := HA.out.1; omega)
        have hak : wrap64 ((a : Int) + (k : Int)) = ((a + k : Nat) : Int) := by have := H2.out.2.2.2.1; have := HA.out; unfold wrap64; omega
        have hak2 : (a : Int) + (k : Int) ≤ 9223372036854775807 := by have := H2.out.2.2.2.1; have := HA.out; omega
        have hak3 : -9223372036854775808 ≤ (a : Int) + (k : Int) := by omega
        have H3 := Lib.hid (And.intro hq3 ((But.of_below H2.out.2.1).trans hb3))
        clear h2 hq3 hb3
        go_wp2_with fail
        go_ret
        have h3 := H3.out
        rw [Int.natCast_add] at h3
        exact ⟨n, rfl, H2.out.2.2.1, ⟨_, h3.1⟩, h3.2⟩
    · have h2i : ((y2 : Int) == 0) = false := by rw [beq_eq_false_iff_ne]; omega
      have h2n : ((y2 : Int) != 0) = true := by rw [bne_iff_ne]; omega
      clear h2
      go_wp2_with fail
      refine (wrong_calls g A c l ⟨a, 0, f⟩ w' y2 a H2.out.2.2.2.2 HA.out.1 H2.out.1).mono ?_
      rintro e W3 ⟨rfl, s3, _, _, hq3, hb3⟩
      have H3 := Lib.hid (And.intro hq3 ((But.of_below H2.out.2.1).trans hb3))
      clear hq3 hb3
      go_wp2_with fail
      go_ret
      exact ⟨0, s3, rfl, by decide, H3.out.1, H3.out.2⟩
  · have hzi : ((y : Int) != 0) = true := by rw [bne_iff_ne]; omega
    have G := Lib.hid h
    clear h hz hmost hcap hbig
    go_enter Try.func37, Try.ntmps37
    go_wp2_with fail
    go_ret
    exact ⟨0, ⟨a, y, f⟩, rfl, by decide, G.out, But.of_below (Below.refl _ _)⟩
set_option maxHeartbeats 1000000 in
set_option maxRecDepth 100000 in
theorem qbyte_calls (g : Nat) (A : Option Addr) (c : Nat) (l : List UInt8) (s : Rs) (W : World) (h : Qst g A c l s W) :
    Calls Try.prog 38 #[.pointer (some ⟨g, 0, none⟩)] W fun e W' => ∃ (n : UInt8) (s' : Rs), e = .returned (.int .u8 (n.toNat : Int)) ∧ Qst g A c l s' W' ∧ But g W W' := by
  obtain ⟨k0, k1, k2, k3⟩ := h.cells
  have hat := h.at_
  have hcap := h.cap
  have hbig := h.big
  have f1 := h.free 1
  obtain ⟨a, y, f⟩ := s
  simp only at k1 k2 k3 hat
  by_cases hz : y = 0
  · have hzi : ((y : Int) != 0) = false := by rw [bne_eq_false_iff_eq]; omega
    by_cases he : a = l.length
    · have hei : ((a : Int) == (l.length : Int)) = true := by rw [beq_iff_eq]; omega
      have hw := fun n => wrong_calls g A c l ⟨a, y, f⟩ (W.drewN n) 4 a (by decide) hat (h.below (below_drewN (Below.refl _ _) n))
      have G := Lib.hid hw
      clear hw h hz he
      go_enter Try.func38, Try.ntmps38
      go_wp2_with fail
      go_quiet (fail)
      go_wp2_with fail
      have hk1 : (W.drewN nq).cell? ⟨g, 1, none⟩ = some (.int .i64 (a : Int)) := k1
      refine (G.out _).mono ?_
      rintro e W3 ⟨rfl, s3, _, _, hq3, hb3⟩
      have H3 := Lib.hid (And.intro hq3 ((But.of_below (show Below W.heap.size W (W.drewN nq) from below_drewN (Below.refl _ _) nq)).trans hb3))
      clear hq3 hb3
      go_wp2_with fail
      go_ret
      exact ⟨0, s3, rfl, H3.out.1, H3.out.2⟩
    · have hei : ((a : Int) == (l.length : Int)) = false := by rw [beq_eq_false_iff_ne]; omega
      have hlt : a < l.length := by omega
      obtain ⟨yb, rfl, hcb⟩ : ∃ y, A = some y ∧ ∀ i : Nat, ∀ h : i < l.length, W.cell? (y.add i) = some (.int .u8 (l[i].toNat : Int)) := by
        rcases h.row with h | h
        · rw [h] at hlt; simp at hlt
        · exact h
      have hfar := h.far yb rfl
      have hq0 := fun n => h.below (below_drewN (Below.refl W.heap.size W) n)
      have HQ := Lib.hid hq0
      have hcb := hcb a hlt
      obtain ⟨x, hx⟩ : ∃ x, x = l[a] := ⟨_, rfl⟩
      rw [← hx] at hcb
      have HC := Lib.hid hcb
      clear h hz he hcb hx hq0
      go_enter Try.func38, Try.ntmps38
      go_wp2_with fail
      go_quiet (fail)
      have hb1 : But g W (W.drewN nq) := But.of_below (below_drewN (Below.refl _ _) nq)
      have k0' : (W.drewN nq).cell? ⟨g, 0, none⟩ = some (.slice (some yb) l.length c) := k0
      have k1' : (W.drewN nq).cell? ⟨g, 1, none⟩ = some (.int .i64 (a : Int)) := k1
      have f1' : (W.drewN nq).frozen? ⟨g, 1, none⟩ = false := f1
      have hc1 : (W.drewN nq).cell? (yb.add a) = some (.int .u8 (x.toNat : Int)) := HC.out
      have hq1 := HQ.out nq
      generalize W.drewN nq = W1 at hb1 k0' k1' f1' hc1 hq1 ⊢
      obtain ⟨hq2, hb2⟩ := hq1.moved (a + 1) (by omega)
      rw [Int.natCast_add] at hq2 hb2
      obtain ⟨m0, m1, _, _⟩ := hq2.cells
      have hyb : (yb.add a).block = yb.block := by unfold Addr.add; split <;> rfl
      have hc2 : (W1.setCell ⟨g, 1, none⟩ (.int .i64 ((a : Int) + ((1 : Nat) : Int)))).cell? (yb.add a) = some (.int .u8 (x.toNat : Int)) := by
        rw [World.cell?_setCell_far _ _ _ _ (by show g ≠ _; rw [hyb]; omega)]
        exact hc1
      have H2 := Lib.hid (And.intro hq2 (hb1.trans hb2))
      have ha0 : (0 : Int) ≤ (a : Int) := by omega
      have hal : (a : Int) < (l.length : Int) := by omega
      have hw1 : wrap64 ((a : Int) + 1) = (a : Int) + 1 := by unfold wrap64; omega
      clear hq1 hq2 hb1 hb2
      go_wp2_with fail
      simp only [show ((1 : Nat) : Int) = 1 from rfl, Int.natCast_add] at m0 m1 hc2 H2
      generalize W1.setCell ⟨g, 1, none⟩ (.int .i64 ((a : Int) + 1)) = W2 at m0 m1 hc2 H2 ⊢
      have hs1 : (a : Int) + 1 - 1 = (a : Int) := by omega
      have hs2 : IntKind.i64.wrap ((a : Int) + 1 - 1) = (a : Int) := by rw [hs1, IntKind.wrap_i64]; omega
      clear k0' k1' f1' hc1 hw1 hyb
      go_quiet (fail)
      go_wp2_with fail
      go_ret
      exact ⟨x, _, rfl, H2.out.1.below (below_drewN (Below.refl _ _) _), H2.out.2.trans (But.of_below (below_drewN (Below.refl _ _) _))⟩
  · have hzi : ((y : Int) != 0) = true := by rw [bne_iff_ne]; omega
    have G := Lib.hid h
    clear h hz hcap hbig
    go_enter Try.func38, Try.ntmps38
    go_wp2_with fail
    go_ret
    exact ⟨0, ⟨a, y, f⟩, rfl, G.out, But.of_below (Below.refl _ _)⟩
end Go.Proofs.Ytinilglljjffjaa.Cd
