/- The walk of the law on a set's list. -/
import Derived.Test.YtbkhfkefkojdbaaDoorListsPlain
namespace Go.Proofs.YtbkhfkefkojdbaaDoor.Bit
set_option linter.unusedVariables false
set_option linter.unusedSimpArgs false
open Go.RowKit
open Go.Proofs.YtbkhfkefkojdbaaDoor.Num

set_option maxHeartbeats 1000000 in
set_option maxRecDepth 100000 in
theorem BitsLists_walk (s m : Nat) (hs : s < 18446744073709551616) (hm : m < 256) (w : World) (hT : TabAt 0 Lib.deBruijn64tab w) (hw : 0 < w.heap.size) :
    Calls Tryd.prog 7 #[.int .u64 (s : Int), .int .u8 (m : Int)] w fun e w' => e = .returned (.bool true) ∧ Below w.heap.size w w' := by
  obtain ⟨r, hr⟩ : ∃ r, r = m % 64 := ⟨_, rfl⟩
  have hr64 : r < 64 := by omega
  have e0 : wrap64 (m : Int) = (m : Int) := by unfold wrap64; omega
  have e1 : (m : Int).tmod 64 = (r : Int) := by rw [Int.tmod_eq_emod_of_nonneg (by omega)]; omega
  have HS := Lib.hid (And.intro hs (And.intro hT hr64))
  clear hs hT hr64 hr hm
  go_enter Tryd.func7, Tryd.ntmps7
  go_wp2_with fail
  refine (list_calls s HS.out.1 _ HS.out.2.1 hw).mono ?_
  rintro e w1 ⟨v1, rfl, ho1, hb1⟩
  obtain ⟨A1, c1, rfl, hr1⟩ := own_ints ho1
  have hlen := len_elems s
  have hga := gather_elems s HS.out.1
  have hmem := mem_elems s
  have hst0 : ∀ L, L = elems s → ∀ (j : Nat) (h : j + 1 < L.length), L[j]'(by omega) < L[j + 1] := by rintro L rfl j h; exact elems_step s j h
  obtain ⟨L, hL⟩ : ∃ L, L = elems s := ⟨_, rfl⟩
  have hcount := count_calls s HS.out.1
  have hst := hst0 L hL
  rw [← hL] at hr1 hlen hga hmem hcount ⊢
  have H1 := Lib.hid (And.intro hr1 (And.intro hb1 (And.intro hga (And.intro hmem (And.intro hst hcount)))))
  clear ho1 hr1 hb1 hga hmem hst hcount hL hst0
  go_wp2_with fail
  go_loop [6, 16] (fun v i => ∃ k : Nat, k ≤ L.length ∧ i = .int .i64 (k : Int) ∧ v = .int .u64 (gather (L.take k) : Int)) (fun _ i => L.length - (intOf i).toNat)
  case atStart => exact ⟨0, by omega, rfl, rfl⟩
  case round =>
    obtain ⟨k, hk, rfl, rfl⟩ := hrel
    by_cases hlt : k < L.length
    · obtain ⟨x, rfl, hc⟩ : ∃ x, A1 = some x ∧ ∀ i : Nat, ∀ h : i < L.length, w1.cell? (x.add i) = some (.int .i64 (L[i] : Int)) := by
        rcases H1.out.1 with h | h
        · rw [h] at hlt; simp at hlt
        · exact h
      have hck := hc k hlt
      have hin := (H1.out.2.2.2.1 L[k]).1 (List.getElem_mem hlt)
      have hhas := has_calls s (L[k] : Int) HS.out.1 (by omega) (by omega) w1
      rw [hasF_nat s L[k] hin.1, hin.2] at hhas
      have hwith := with_calls (gather (L.take k)) (L[k] : Int) (gather_lt _) (by omega) (by omega) w1
      have hgs : withF (gather (L.take k)) (L[k] : Int) = gather (L.take (k + 1)) := by rw [List.take_succ_eq_append_getElem hlt, gather_snoc]
      rw [hgs] at hwith
      obtain ⟨g, hg⟩ : ∃ g, g = gather (L.take k) := ⟨_, rfl⟩
      obtain ⟨g2, hg2⟩ : ∃ g, g = gather (L.take (k + 1)) := ⟨_, rfl⟩
      rw [← hg] at hwith ⊢
      rw [← hg2] at hwith
      obtain ⟨y, hy⟩ : ∃ y, y = L[k] := ⟨_, rfl⟩
      rw [← hy] at hck hhas hwith hin
      have hy64 := hin.1
      have n1 : ¬ (y : Int) < 0 := by omega
      have n2 : ¬ (63 : Int) < (y : Int) := by omega
      by_cases hk0 : k = 0
      · subst hk0
        have hck0 : w1.cell? x = some (.int .i64 (y : Int)) := by simpa [Addr.add] using hck
        have HR := Lib.hid (And.intro hhas (And.intro hwith hg2))
        clear hhas hwith hg2 hgs hin hc hg hy hck
        go_wp2_with fail
        refine HR.out.1.mono ?_
        rintro e w' ⟨rfl, rfl⟩
        go_wp2_with fail
        refine HR.out.2.1.mono ?_
        rintro e w' ⟨rfl, rfl⟩
        go_wp2_with fail
        go_round
        case rel => exact ⟨0 + 1, by omega, by go_num, by rw [HR.out.2.2]⟩
        case measure => (first | (simp [intOf]; done) | (simp [intOf]; omega))
      · obtain ⟨j, hj⟩ : ∃ j, j + 1 = k := ⟨k - 1, by omega⟩
        have hcj := hc j (by omega)
        have hjy := H1.out.2.2.2.2.1 j (by omega)
        have hjk : L[j + 1]'(by omega) = y := by rw [hy]; congr 1
        rw [hjk] at hjy
        obtain ⟨z, hz⟩ : ∃ z, z = L[j]'(by omega) := ⟨_, rfl⟩
        rw [← hz] at hcj hjy
        have hzy : decide (y ≤ z) = false := decide_eq_false (by omega)
        have ek : (k : Int) - 1 = (j : Int) := by omega
        have HR := Lib.hid (And.intro hhas (And.intro hwith hg2))
        clear hhas hwith hg2 hgs hin hc hg hy hz hjk
        go_wp2_with fail
        refine HR.out.1.mono ?_
        rintro e w' ⟨rfl, rfl⟩
        go_wp2_with fail
        refine HR.out.2.1.mono ?_
        rintro e w' ⟨rfl, rfl⟩
        go_wp2_with fail
        go_round
        case rel => exact ⟨k + 1, by omega, by go_num, by rw [HR.out.2.2]⟩
        case measure => (first | (simp [intOf]; done) | (simp [intOf]; omega))
    · obtain rfl : k = L.length := by omega
      rw [List.take_length, H1.out.2.2.1]
      have hj1 := just_one s r HS.out.1 HS.out.2.2
      have wl := with_lt s (r : Int) HS.out.1
      have wol := without_lt s (r : Int) HS.out.1
      have ca := with_calls s (r : Int) HS.out.1 (by omega) (by have := HS.out.2.2; omega) w1
      have cb := without_calls s (r : Int) HS.out.1 (by omega) (by have := HS.out.2.2; omega) w1
      have cha := has_calls _ (r : Int) wl (by omega) (by have := HS.out.2.2; omega) w1
      have chb := has_calls _ (r : Int) wol (by omega) (by have := HS.out.2.2; omega) w1
      have cwa := without_calls _ (r : Int) wl (by omega) (by have := HS.out.2.2; omega) w1
      have cwb := with_calls _ (r : Int) wol (by omega) (by have := HS.out.2.2; omega) w1
      rw [has_with s r HS.out.2.2] at cha
      rw [has_without s r HS.out.1 HS.out.2.2] at chb
      rw [without_with s r HS.out.1 HS.out.2.2] at cwa
      rw [with_without s r HS.out.1 HS.out.2.2] at cwb
      obtain ⟨x, hx⟩ : ∃ x, x = withF s (r : Int) := ⟨_, rfl⟩
      obtain ⟨y, hy⟩ : ∃ y, y = withoutF s (r : Int) := ⟨_, rfl⟩
      rw [← hx] at ca cha cwa cwb hj1 wl
      rw [← hy] at cb chb cwa cwb hj1 wol
      have G := Lib.hid (And.intro ca (And.intro cb (And.intro (H1.out.2.2.2.2.2 w1) (And.intro cha (And.intro chb (And.intro cwa cwb))))))
      have JJ := Lib.hid hj1
      clear ca cb cha chb cwa cwb hx hy wl wol hj1 hlt hk
      rcases JJ.out with ⟨h1, h2⟩ | ⟨h1, h2⟩
      · have d1 : ((x : Int) == (s : Int)) = true := by rw [beq_iff_eq]; omega
        have d2 : ((y : Int) == (s : Int)) = false := by rw [beq_eq_false_iff_ne]; omega
        have J2 := Lib.hid (And.intro h1 h2)
        clear h1 h2 JJ
        go_wp2_with fail
        refine G.out.1.mono ?_
        rintro e w' ⟨rfl, rfl⟩
        go_wp2_with fail
        refine G.out.2.1.mono ?_
        rintro e w' ⟨rfl, rfl⟩
        go_wp2_with fail
        refine G.out.2.2.1.mono ?_
        rintro e w' ⟨rfl, rfl⟩
        go_wp2_with fail
        refine G.out.2.2.2.1.mono ?_
        rintro e w' ⟨rfl, rfl⟩
        go_wp2_with fail
        refine G.out.2.2.2.2.1.mono ?_
        rintro e w' ⟨rfl, rfl⟩
        go_wp2_with fail
        refine G.out.2.2.2.2.2.1.mono ?_
        rintro e w' ⟨rfl, rfl⟩
        go_wp2_with fail
        refine G.out.2.2.2.2.2.2.mono ?_
        rintro e w' ⟨rfl, rfl⟩
        go_wp2_with fail
        refine (alive_D HS.out.2.1 hw H1.out.2.1).mono ?_
        rintro e w3 ⟨rfl, hb3⟩
        go_wp2_with fail
        go_ret
        exact ⟨rfl, hb3⟩
      · have d1 : ((x : Int) == (s : Int)) = false := by rw [beq_eq_false_iff_ne]; omega
        have d2 : ((y : Int) == (s : Int)) = true := by rw [beq_iff_eq]; omega
        have J2 := Lib.hid (And.intro h1 h2)
        clear h1 h2 JJ
        go_wp2_with fail
        refine G.out.1.mono ?_
        rintro e w' ⟨rfl, rfl⟩
        go_wp2_with fail
        refine G.out.2.1.mono ?_
        rintro e w' ⟨rfl, rfl⟩
        go_wp2_with fail
        refine G.out.2.2.1.mono ?_
        rintro e w' ⟨rfl, rfl⟩
        go_wp2_with fail
        refine G.out.2.2.2.1.mono ?_
        rintro e w' ⟨rfl, rfl⟩
        go_wp2_with fail
        refine G.out.2.2.2.2.1.mono ?_
        rintro e w' ⟨rfl, rfl⟩
        go_wp2_with fail
        refine G.out.2.2.2.2.2.1.mono ?_
        rintro e w' ⟨rfl, rfl⟩
        go_wp2_with fail
        refine G.out.2.2.2.2.2.2.mono ?_
        rintro e w' ⟨rfl, rfl⟩
        go_wp2_with fail
        refine (alive_D HS.out.2.1 hw H1.out.2.1).mono ?_
        rintro e w3 ⟨rfl, hb3⟩
        go_wp2_with fail
        go_ret
        exact ⟨rfl, hb3⟩
end Go.Proofs.YtbkhfkefkojdbaaDoor.Bit
