/- The walk of the law on a turned frame. -/
import Derived.Test.YtjngekbgfinidaaFrameLaw4
namespace Go.Proofs.Ytjngekbgfinidaa.Fr
set_option linter.unusedVariables false
set_option linter.unusedSimpArgs false
open Go.RowKit
open Go.Proofs.Ytjngekbgfinidaa.Num Go.Proofs.Ytjngekbgfinidaa.Crc

set_option maxRecDepth 100000 in
theorem FrameTurned_walk (a : Option Addr) (c : Nat) (l : List UInt8) (at_ : Int) (x : UInt8) (w : World) (hr : Row8 w a l) (hn : a = none → c = 0) (hl : l.length ≤ 9223372036854775807) :
    Calls Try.prog 5 #[.slice a l.length c, .int .i64 at_, .int .u8 (x.toNat : Int)] w fun e w' => e = .returned (.bool true) ∧ Below w.heap.size w w' := by
  have G := Lib.hid (And.intro hr hn)
  clear hr hn
  go_enter Try.func5, Try.ntmps5
  go_wp2_with fail
  refine (long_calls _ _ _ _).mono ?_
  rintro e w' ⟨rfl, rfl⟩
  by_cases hl6 : 6000 < l.length
  · go_wp2_with fail
    refine (alive_calls _).mono ?_
    rintro e w' ⟨rfl, hb⟩
    go_wp2_with fail
    go_ret
    exact ⟨rfl, hb⟩
  · by_cases hx : x = 0
    · have ex : ((x.toNat : Int) == 0) = true := by rw [hx]; rfl
      go_wp2_with fail
      refine (alive_calls _).mono ?_
      rintro e w' ⟨rfl, hb⟩
      go_wp2_with fail
      go_ret
      exact ⟨rfl, hb⟩
    · have ex : ((x.toNat : Int) == 0) = false := by
        rw [beq_eq_false_iff_ne]; intro h; apply hx; apply UInt8.toNat_inj.1
        have : x.toNat = 0 := by omega
        rw [this]; rfl
      have HX := Lib.hid hx
      clear hx
      by_cases h4 : 4096 < l.length
      · go_wp2_with fail
        refine (put_many none a 0 c [] l h4 hl _).mono ?_
        rintro e w1 ⟨rfl, hb⟩
        go_wp2_with fail
        refine (alive_calls _).mono ?_
        rintro e w2 ⟨rfl, hb2⟩
        go_wp2_with fail
        go_ret
        exact ⟨rfl, hb.trans (hb2.mono hb.size)⟩
      · go_wp2_with fail
        refine (put_frame none a 0 c [] l _ (.inl rfl) (fun _ => rfl) (by simp) G.out.1 G.out.2 (by omega)).mono ?_
        rintro e w1 ⟨⟨v, rfl, ho⟩, hb⟩
        rw [List.nil_append] at ho
        obtain ⟨k, hk, E⟩ := mod_in at_ ((frame l).length : Int) (by rw [length_frame]; omega) (by rw [length_frame]; omega)
        have hkl : k < (frame l).length := by omega
        have hturn := nextF_turned l (by omega) k hkl x HX.out
        obtain ⟨y, hy⟩ : ∃ y, y = (frame l)[k] ^^^ x := ⟨_, rfl⟩
        have X8 : Go.bits .xor .u8 ((frame l)[k].toNat : Int) (x.toNat : Int) = (y.toNat : Int) := by rw [hy]; exact xor_u8 _ _
        rw [← hy] at hturn
        obtain ⟨g, c2, rfl, hg, hcell, hfree, hset⟩ := ho.at_ hkl
        have hFl := length_frame l
        obtain ⟨n, hn⟩ : ∃ n, n = (frame l).length := ⟨_, rfl⟩
        obtain ⟨z, hz⟩ : ∃ z : UInt8, z = (frame l)[k] := ⟨_, rfl⟩
        rw [← hn] at hk E hkl hFl ⊢
        rw [← hz] at X8 hcell
        have hp : ((n : Int) == 0) = false := by rw [beq_eq_false_iff_ne]; omega
        have hp0 : ¬ (n : Int) = 0 := by omega
        have hL : ((frame l).set k y).length = n := by rw [List.length_set, hn]
        have hnx := next_own (hset y) (by rw [hL]; omega)
        have hb2 : Below w.heap.size w (w1.setCell ⟨g, k, none⟩ (.int .u8 (y.toNat : Int))) := hb.setCell hg _
        rw [← hn] at hnx
        obtain ⟨L, hL2⟩ : ∃ L, L = (nextF ((frame l).set k y)).1 := ⟨_, rfl⟩
        obtain ⟨n2, hn2⟩ : ∃ n2, n2 = (nextF ((frame l).set k y)).2.1 := ⟨_, rfl⟩
        obtain ⟨e2, he2⟩ : ∃ e2, e2 = (nextF ((frame l).set k y)).2.2 := ⟨_, rfl⟩
        rw [← hL2, ← hn2, ← he2] at hnx
        rw [← hL2, ← he2] at hturn
        have H1 := Lib.hid (And.intro hnx (And.intro hb2 hturn))
        clear hFl hnx hb2 hturn hset ho hy hz hn hL hb hL2 hn2 he2 HX hl6 h4 hl
        have hgz := hg
        go_wp2_with fail
        refine H1.out.1.mono ?_
        rintro e w2 ⟨v2, rfl, ho2, hb2⟩
        obtain ⟨A2, c3, rfl, _⟩ := ho2.row
        have HB := Lib.hid (H1.out.2.1.trans (hb2.mono H1.out.2.1.size))
        clear ho2 hb2
        by_cases h0 : e2 = 0
        · have hne : ((L.length : Int) != (l.length : Int)) = true := by
            rw [bne_iff_ne]; rcases H1.out.2.2 with h | h
            · exact absurd h0 h
            · omega
          subst h0
          go_wp2_with fail
          refine (alive_calls _).mono ?_
          rintro e w3 ⟨rfl, hb3⟩
          go_wp2_with fail
          go_ret
          exact ⟨rfl, HB.out.trans (hb3.mono HB.out.size)⟩
        · have hne : ((e2 : Int) != 0) = true := by rw [bne_iff_ne]; omega
          go_wp2_with fail
          refine (alive_calls _).mono ?_
          rintro e w3 ⟨rfl, hb3⟩
          go_wp2_with fail
          go_ret
          exact ⟨rfl, HB.out.trans (hb3.mono HB.out.size)⟩
end Go.Proofs.Ytjngekbgfinidaa.Fr
