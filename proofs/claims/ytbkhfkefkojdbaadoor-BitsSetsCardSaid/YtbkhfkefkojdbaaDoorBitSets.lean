/- The walk of the law on sets. -/
import Derived.Test.YtbkhfkefkojdbaaDoorRefList
namespace Go.Proofs.YtbkhfkefkojdbaaDoor.Bit
set_option linter.unusedVariables false
set_option linter.unusedSimpArgs false
open Go.RowKit
open Go.Proofs.YtbkhfkefkojdbaaDoor.Num

set_option maxRecDepth 100000 in
theorem BitsSets_walk (s : Nat) (n : Int) (hs : s < 18446744073709551616) (h0 : -9223372036854775808 ≤ n) (h1 : n ≤ 9223372036854775807) (w : World) (hT : TabAt 0 Lib.deBruijn64tab w) (hw : 0 < w.heap.size) :
    Calls Tryd.prog 6 #[.int .u64 (s : Int), .int .i64 n] w fun e w' => e = .returned (.bool true) ∧ Below w.heap.size w w' := by
  have G := Lib.hid (And.intro (has_calls s n hs h0 h1 w) (And.intro (refhas_calls s n hs h0 h1 w) (And.intro (with_calls s n hs h0 h1 w) (And.intro (refwith_calls s n hs h0 h1 w) (And.intro (without_calls s n hs h0 h1 w) (And.intro (refwithout_calls s n hs h0 h1 w) (And.intro (count_calls s hs w) (And.intro hT hs))))))))
  clear hs h0 h1 hT
  go_enter Tryd.func6, Tryd.ntmps6
  go_wp2_with fail
  refine G.out.1.mono ?_
  rintro e w' ⟨rfl, rfl⟩
  go_wp2_with fail
  refine G.out.2.1.mono ?_
  rintro e w' ⟨rfl, rfl⟩
  go_wp2_with fail
  refine G.out.2.2.1.mono ?_
  rintro e w' ⟨rfl, rfl⟩
  go_wp2_with fail
  refine G.out.2.2.2.1.mono ?_
  rintro e w' ⟨rfl, rfl⟩
  go_wp2_with fail
  refine G.out.2.2.2.2.1.mono ?_
  rintro e w' ⟨rfl, rfl⟩
  go_wp2_with fail
  refine G.out.2.2.2.2.2.1.mono ?_
  rintro e w' ⟨rfl, rfl⟩
  go_wp2_with fail
  refine G.out.2.2.2.2.2.2.1.mono ?_
  rintro e w' ⟨rfl, rfl⟩
  go_wp2_with fail
  refine (reflist_calls s G.out.2.2.2.2.2.2.2.2 _).mono ?_
  rintro e w1 ⟨v1, rfl, ho1, hb1⟩
  obtain ⟨A1, c1, rfl, _⟩ := own_ints ho1
  have H1 := Lib.hid hb1
  clear ho1 hb1
  go_wp2_with fail
  refine (list_calls s G.out.2.2.2.2.2.2.2.2 _ (tab_below G.out.2.2.2.2.2.2.2.1 H1.out hw) (by have := H1.out.size; omega)).mono ?_
  rintro e w2 ⟨v2, rfl, ho2, hb2⟩
  obtain ⟨A2, c2, rfl, hr2⟩ := own_ints ho2
  have H2 := Lib.hid (And.intro hr2 (H1.out.trans (hb2.mono H1.out.size)))
  clear ho2 hr2 hb2
  go_wp2_with fail
  refine (reflist_calls s G.out.2.2.2.2.2.2.2.2 _).mono ?_
  rintro e w3 ⟨v3, rfl, ho3, hb3⟩
  obtain ⟨A3, c3, rfl, hr3⟩ := own_ints ho3
  have H3 := Lib.hid (And.intro (H2.out.1.below hb3) (And.intro hr3 (H2.out.2.trans (hb3.mono H2.out.2.size))))
  clear ho3 hr3 hb3
  go_wp2_with fail
  refine (ints_calls A2 c2 (elems s) A3 c3 (elems s) _ H3.out.1 H3.out.2.1 (by have := len_elems s; omega)).mono ?_
  rintro e w4 ⟨rfl, hb4⟩
  rw [decide_eq_true rfl]
  have H4 := Lib.hid (H3.out.2.2.trans (hb4.mono H3.out.2.2.size))
  clear hb4
  go_wp2_with fail
  refine (alive_calls _ (tab_below G.out.2.2.2.2.2.2.2.1 H4.out hw) (by have := H4.out.size; omega)).mono ?_
  rintro e w5 ⟨rfl, hb5⟩
  go_wp2_with fail
  go_ret
  exact ⟨rfl, H4.out.trans (hb5.mono H4.out.size)⟩
end Go.Proofs.YtbkhfkefkojdbaaDoor.Bit
