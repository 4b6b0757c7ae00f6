/- The walk of a law of crc: a text turned in one byte. -/
import Derived.Test.YtocbogagfdbcmaaCrcLaw2
import Derived.Test.YtocbogagfdbcmaaApp
namespace Go.Proofs.Ytocbogagfdbcmaa.Crc
open Go.RowKit

theorem info8 : (Try.prog.info? 5).map (fun i => (i.zero, i.size, i.bytes)) = some (some (.int .u8 0), 1, 1) := by kernel_rfl

set_option maxRecDepth 100000 in
theorem CrcTurned_walk (a : Option Addr) (c : Nat) (l : List UInt8) (at_ : Int) (x : UInt8) (w : World) (hr : Row8 w a l) (hn : a = none → c = 0) :
    Calls Try.prog 8 #[.slice a l.length c, .int .i64 at_, .int .u8 (x.toNat : Int)] w fun e w' => e = .returned (.bool true) ∧ Below w.heap.size w w' := by
  by_cases h0 : l.length = 0
  · have d0 : ((l.length : Int) == 0) = true := by simp [h0]
    have H := Lib.hid h0
    clear h0
    go_enter Try.func8, Try.ntmps8
    go_wp2_with (first | (go_at_call 10; ((with_reducible refine (alive_calls _).mono ?_); rintro e w' ⟨rfl, hb⟩)))
    go_ret
    exact ⟨rfl, hb⟩
  · have d0 : ((l.length : Int) == 0) = false := by simp [h0]
    have hp : 0 < l.length := by omega
    clear h0
    by_cases h1 : 5000 < l.length
    · have d1 : decide (5000 < l.length) = true := decide_eq_true h1
      clear h1
      go_enter Try.func8, Try.ntmps8
      go_wp2_with (first | (go_at_call 9; ((with_reducible refine (long_calls _ _ _ _).mono ?_); rintro e w' ⟨rfl, rfl⟩)) | (go_at_call 10; ((with_reducible refine (alive_calls _).mono ?_); rintro e w' ⟨rfl, hb⟩)))
      go_ret
      exact ⟨rfl, hb⟩
    · have d1 : decide (5000 < l.length) = false := decide_eq_false h1
      have h3 : l.length ≤ 5000 := by omega
      obtain ⟨k, hk, E⟩ := mod_in at_ (l.length : Int) (by omega) (by omega)
      clear h1
      have hkl : k < l.length := by omega
      obtain ⟨y, hy⟩ : ∃ y, y = l[k] ^^^ x := ⟨_, rfl⟩
      have X8 : Go.bits .xor .u8 (l[k].toNat : Int) (x.toNat : Int) = (y.toNat : Int) := by rw [hy]; exact xor_u8 _ _
      obtain ⟨l2, hl2⟩ : ∃ l2, l2 = l.set k y := ⟨_, rfl⟩
      have hn2 : l.length = l2.length := by rw [hl2, List.length_set]
      obtain ⟨j, hj⟩ : ∃ j : Nat, j = l.length - 1 - k := ⟨_, rfl⟩
      have E2 : wrap64 (wrap64 ((l.length : Int) - 1) - (k : Int)) % 4294967296 = (j : Int) := by unfold wrap64; omega
      have HE := Lib.hid E2
      clear E2
      have M : more 0#32 l ^^^ zeros j (eight (BitVec.ofNat 32 x.toNat)) = more 0#32 l2 := by rw [hj, hl2, hy, more_set]
      have hjb : j < 4294967296 := by omega
      have hB : ([] : List UInt8).length + l.length ≤ 140737488355328 := by simp; omega
      have Hl := Lib.hid hl2
      have Hn := Lib.hid hn2
      have G := Lib.hid (And.intro hr (And.intro hn (And.intro hB (And.intro hjb h3))))
      have hx : (x.toNat : Int) = 0 ∧ l2 = l ∨ ((x.toNat : Int) == 0) = false ∧ (u (more 0#32 l) == u (more 0#32 l2)) = false := by
        by_cases h : x = 0
        · refine .inl ⟨by rw [h]; rfl, ?_⟩
          rw [hl2, hy, h, UInt8.xor_zero, List.set_getElem_self]
        · refine .inr ⟨?_, ?_⟩
          · rw [beq_eq_false_iff_ne]
            intro h0
            apply h
            apply UInt8.toNat_inj.1
            have : x.toNat = 0 := by omega
            rw [this]; rfl
          · rw [beq_eq_false_iff_ne]
            intro h0
            apply more_ne 0#32 l k hkl x h
            rw [← hy, ← hl2]
            exact u_inj h0
      clear hr hn hB hy hl2 hn2 hj hjb h3 hp
      rcases hx with ⟨hx1, hx2⟩ | ⟨hx1, hx2⟩
      · have Z := Lib.hid hx2
        have ex : ((x.toNat : Int) == 0) = true := beq_iff_eq.2 hx1
        have es : (u (more 0#32 l) == u (more 0#32 l2)) = true := by rw [hx2]; exact beq_self_eq_true _
        clear hx1 hx2
        go_enter Try.func8, Try.ntmps8
        go_wp2_with (first | (go_at_call 9; ((with_reducible refine (long_calls _ _ _ _).mono ?_); rintro e w' ⟨rfl, rfl⟩)) | (at_builtin; refine wpList_append8 rfl _ _ 22 rfl w.heap.size 5 Try.underlying22 info8 (.slice none 0 0) [] l a c rfl (Own8.nil _ _ _) rfl G.out.1 G.out.2.1 G.out.2.2.1 (Nat.le_refl _) ?_; intro v' w1 hown hgrow; rw [List.nil_append] at hown; have hbw := hgrow; obtain ⟨g, c2, rfl, hg, hcell, hfree, hset⟩ := hown.at_ hkl))
        have hb2 : Below w.heap.size w (w1.setCell ⟨g, k, none⟩ (.int .u8 (y.toNat : Int))) := (below_of_grown hgrow).setCell hg _
        have hr2 : Row8 (w1.setCell ⟨g, k, none⟩ (.int .u8 (y.toNat : Int))) (some ⟨g, 0, none⟩) l2 := by
          obtain ⟨A, c3, e, hrow, _⟩ := (hset y).row
          injection e with e1 _ _
          rw [e1, Hl.out]
          exact hrow
        have hz2 : (w1.setCell ⟨g, k, none⟩ (.int .u8 (y.toNat : Int))).heap.size = w1.heap.size := by simp
        generalize w1.setCell ⟨g, k, none⟩ (.int .u8 (y.toNat : Int)) = w2 at hb2 hr2 hz2 ⊢
        have hz3 := hb2.size
        have HR := Lib.hid hr2
        clear hr2 hset hcell hfree hown
        refine (sum1n (w0 := w) _ _ _ _ l rfl G.out.1 (by have := G.out.2.2.2.2; omega) (by repeat (first | exact Below.refl _ _ | assumption | apply Below.drew | apply below_drewN | (refine Below.alloc ?_ (by first | (simp; done) | omega | (simp; omega)) _))) (by repeat (first | exact heap_at (by first | (simp; done) | omega | (simp; omega)) | assumption | apply heap_behind_drew | apply heap_behind_drewN | apply heap_past))).mono ?_
        rintro e w' ⟨rfl, rfl⟩
        go_wp2_with fail
        refine (sum1n (w0 := w2) _ _ _ _ l2 Hn.out HR.out (by have := G.out.2.2.2.2; have := Hn.out; omega) (by repeat (first | exact Below.refl _ _ | assumption | apply Below.drew | apply below_drewN | (refine Below.alloc ?_ (by first | (simp; done) | omega | (simp; omega)) _))) (by repeat (first | exact heap_at (by first | (simp; done) | omega | (simp; omega)) | assumption | apply heap_behind_drew | apply heap_behind_drewN | apply heap_past))).mono ?_
        rintro e w' ⟨rfl, rfl⟩
        go_wp2_with fail
        rw [HE.out]
        refine (flip_calls _ j _ _ G.out.2.2.2.1).mono ?_
        rintro e w' ⟨rfl, hb4⟩
        rw [M]
        go_wp2_with fail
        refine (alive_calls _).mono ?_
        rintro e w' ⟨rfl, hb5⟩
        go_wp2_with fail
        go_ret
        have hb6 : Below w.heap.size w ((w2.alloc (.cells #[.slice a l.length c] 22)).alloc (.cells #[.slice (some ⟨g, 0, none⟩) l.length c2] 22)) := (by repeat (first | exact Below.refl _ _ | assumption | apply Below.drew | apply below_drewN | (refine Below.alloc ?_ (by first | (simp; done) | omega | (simp; omega)) _)))
        exact ⟨rfl, (hb6.trans (hb4.mono hb6.size)).trans (hb5.mono (Nat.le_trans hb6.size hb4.size))⟩
      · go_enter Try.func8, Try.ntmps8
        go_wp2_with (first | (go_at_call 9; ((with_reducible refine (long_calls _ _ _ _).mono ?_); rintro e w' ⟨rfl, rfl⟩)) | (at_builtin; refine wpList_append8 rfl _ _ 22 rfl w.heap.size 5 Try.underlying22 info8 (.slice none 0 0) [] l a c rfl (Own8.nil _ _ _) rfl G.out.1 G.out.2.1 G.out.2.2.1 (Nat.le_refl _) ?_; intro v' w1 hown hgrow; rw [List.nil_append] at hown; have hbw := hgrow; obtain ⟨g, c2, rfl, hg, hcell, hfree, hset⟩ := hown.at_ hkl))
        have hb2 : Below w.heap.size w (w1.setCell ⟨g, k, none⟩ (.int .u8 (y.toNat : Int))) := (below_of_grown hgrow).setCell hg _
        have hr2 : Row8 (w1.setCell ⟨g, k, none⟩ (.int .u8 (y.toNat : Int))) (some ⟨g, 0, none⟩) l2 := by
          obtain ⟨A, c3, e, hrow, _⟩ := (hset y).row
          injection e with e1 _ _
          rw [e1, Hl.out]
          exact hrow
        have hz2 : (w1.setCell ⟨g, k, none⟩ (.int .u8 (y.toNat : Int))).heap.size = w1.heap.size := by simp
        generalize w1.setCell ⟨g, k, none⟩ (.int .u8 (y.toNat : Int)) = w2 at hb2 hr2 hz2 ⊢
        have hz3 := hb2.size
        have HR := Lib.hid hr2
        clear hr2 hset hcell hfree hown
        refine (sum1n (w0 := w) _ _ _ _ l rfl G.out.1 (by have := G.out.2.2.2.2; omega) (by repeat (first | exact Below.refl _ _ | assumption | apply Below.drew | apply below_drewN | (refine Below.alloc ?_ (by first | (simp; done) | omega | (simp; omega)) _))) (by repeat (first | exact heap_at (by first | (simp; done) | omega | (simp; omega)) | assumption | apply heap_behind_drew | apply heap_behind_drewN | apply heap_past))).mono ?_
        rintro e w' ⟨rfl, rfl⟩
        go_wp2_with fail
        refine (sum1n (w0 := w2) _ _ _ _ l2 Hn.out HR.out (by have := G.out.2.2.2.2; have := Hn.out; omega) (by repeat (first | exact Below.refl _ _ | assumption | apply Below.drew | apply below_drewN | (refine Below.alloc ?_ (by first | (simp; done) | omega | (simp; omega)) _))) (by repeat (first | exact heap_at (by first | (simp; done) | omega | (simp; omega)) | assumption | apply heap_behind_drew | apply heap_behind_drewN | apply heap_past))).mono ?_
        rintro e w' ⟨rfl, rfl⟩
        go_wp2_with fail
        rw [HE.out]
        refine (flip_calls _ j _ _ G.out.2.2.2.1).mono ?_
        rintro e w' ⟨rfl, hb4⟩
        rw [M]
        go_wp2_with fail
        refine (alive_calls _).mono ?_
        rintro e w' ⟨rfl, hb5⟩
        go_wp2_with fail
        go_ret
        have hb6 : Below w.heap.size w ((w2.alloc (.cells #[.slice a l.length c] 22)).alloc (.cells #[.slice (some ⟨g, 0, none⟩) l.length c2] 22)) := (by repeat (first | exact Below.refl _ _ | assumption | apply Below.drew | apply below_drewN | (refine Below.alloc ?_ (by first | (simp; done) | omega | (simp; omega)) _)))
        exact ⟨rfl, (hb6.trans (hb4.mono hb6.size)).trans (hb5.mono (Nat.le_trans hb6.size hb4.size))⟩
end Go.Proofs.Ytocbogagfdbcmaa.Crc
