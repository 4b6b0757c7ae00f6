/- The walk of the law: what is read without a fault is written as the same bytes. -/
import Derived.Test.YtinilglljjffjaaCAlive
namespace Go.Proofs.Ytinilglljjffjaa.Cd
set_option linter.unusedVariables false
set_option linter.unusedSimpArgs false
open Go.RowKit
open Go.Proofs.Ytinilglljjffjaa.Num

theorem Rst.belowB {g B : Nat} {A : Option Addr} {c : Nat} {l : List UInt8} {s : Rs} {W W' : World} (h : Rst g A c l s W) (hb : Below B W W') (hg : g < B) : Rst g A c l s W' := by
  refine ⟨(hb.block g hg).trans h.box, ?_, h.cap, h.big, h.nul, h.far, h.at_, h.fat, h.why⟩
  rcases h.row with h1 | ⟨z, hz, hc⟩
  · exact .inl h1
  · refine .inr ⟨z, hz, fun j hj => ?_⟩
    have hbz : (z.add j).block = z.block := by unfold Addr.add; split <;> rfl
    have := h.far z hz
    exact (World.cell?_of_block (hb.block _ (by rw [hbz]; omega))).trans (hc j hj)
theorem Wst.but {B T g gr : Nat} {v : Value} {l : List UInt8} {W W' : World} (h : Wst B T g v l W) (hb : But gr W W') (hr : gr < B) (hB : B ≤ g) : Wst B T g v l W' := by
  refine ⟨(hb.keep g h.box.lt (by omega) (by simp [Value.ownBlock])).trans h.box, ?_⟩
  rcases h.own with ⟨h0, h1 | ⟨k, cap, cur, hv, hk, hh, hrest⟩⟩
  · exact ⟨h0, .inl h1⟩
  · refine ⟨h0, .inr ⟨k, cap, cur, hv, hk, ?_, hrest⟩⟩
    exact (hb.keep k (Array.getElem?_eq_some_iff.1 hh).1 (by omega) (by simp [Value.ownBlock])).trans hh
/-- A row behind a block that turned. -/
theorem Row8.turn {W W' : World} {A : Option Addr} {l : List UInt8} {g : Nat} {v v' : Value} (hr : Row8 W A l) (ht : Turn g v v' W W') (hf : ∀ x, A = some x → x.block ≠ g ∧ v.ownBlock ≠ some x.block) : Row8 W' A l := by
  rcases hr with h1 | ⟨x, rfl, hc⟩
  · exact .inl h1
  · refine .inr ⟨x, rfl, fun i hi => ?_⟩
    have h1 := hc i hi
    have hlt := World.block_lt_of_cell? W _ h1
    have hb : (x.add i).block = x.block := by unfold Addr.add; split <;> rfl
    rw [← h1]
    refine World.cell?_of_block ?_
    rw [hb] at hlt ⊢
    exact ht.keep _ hlt (hf x rfl).1 (hf x rfl).2
theorem own_block {W : World} {base E : Nat} {A : Option Addr} {n c : Nat} {l : List UInt8} (h : Own8 W base E (.slice A n c) l) : ∀ x, A = some x → base ≤ x.block ∧ x.block < W.heap.size := by
  intro x hx
  subst hx
  exact h.lt x.block (by
    rcases h.2 with ⟨h, _⟩ | ⟨g, cap, cur, h, _⟩
    · cases h
    · cases h; rfl)
theorem took (l m : List UInt8) (a k : Nat) (e : List UInt8) (hm : m = l.take a) (he : e = (l.drop a).take k) : m ++ e = l.take (a + k) := by rw [hm, he, List.take_add]
theorem enc_num (most : Nat) (d : List UInt8) (h : (readF most d).2.2 = 0) : short (readF most d).1 = d.take (readF most d).2.1 := by
  unfold readF at h ⊢
  simp only at h ⊢
  split at h
  · omega
  · exact (long_ok d h).2.2.2.2
theorem enc_one (d : List UInt8) (h : (oneF d).2.2 = 0) : [UInt8.ofNat (oneF d).1] = d.take (oneF d).2.1 := by
  cases d with
  | nil => simp [oneF] at h
  | cons x xs => simp [oneF]
theorem enc_truth (d : List UInt8) (h : (truthF d).2.2 = 0) : [tF (truthF d).1] = d.take (truthF d).2.1 := by
  cases d with
  | nil => simp [truthF] at h
  | cons x xs =>
    have hx : x.toNat ≤ 1 := by
      unfold truthF at h
      simp only at h
      split at h <;> omega
    have : x = tF (decide (x.toNat = 1)) := by
      unfold tF
      by_cases h1 : x.toNat = 1
      · rw [decide_eq_true h1, if_pos rfl]; exact UInt8.toNat_inj.1 h1
      · rw [decide_eq_false h1, if_neg (by decide)]
        have h0 : x.toNat = 0 := by omega
        exact UInt8.toNat_inj.1 h0
    simp [truthF, ← this]
theorem enc_text (most : Nat) (d : List UInt8) (h : (textR most d).2.2 = 0) : textF (textR most d).1 = d.take (textR most d).2.1 := by
  unfold textR textG at h ⊢
  split at h
  · rename_i h0
    rw [if_pos h0]
    split at h
    · simp at h
    · rename_i h1
      rw [if_neg h1]
      unfold textF
      simp only
      have hl : ((d.drop (readF most d).2.1).take (readF most d).1).length = (readF most d).1 := by rw [List.length_take, List.length_drop]; omega
      rw [hl, enc_num most d h0, List.take_add]
  · rename_i h0
    exact absurd h h0
theorem enc_key (d : List UInt8) (h : (keyR d).2.2 = 0) : (keyR d).1 = d.take (keyR d).2.1 := by
  unfold keyR at h ⊢
  split at h
  · simp at h
  · rename_i h1
    rw [if_neg h1]
/-- What a field's reading leaves, without a fault so far. -/
theorem field_two {α : Type} (z : α) (rd : List UInt8 → α × Nat × Nat) (enc : α → List UInt8) (l m : List UInt8) (a : Nat) (hm : m = l.take a) (he : (rd (l.drop a)).2.2 = 0 → enc (rd (l.drop a)).1 = (l.drop a).take (rd (l.drop a)).2.1) :
    ((fieldF z rd l ⟨a, 0, 0⟩).2.why = 0 ∧ (fieldF z rd l ⟨a, 0, 0⟩).2.fat = 0 ∧ m ++ enc (fieldF z rd l ⟨a, 0, 0⟩).1 = l.take (fieldF z rd l ⟨a, 0, 0⟩).2.at_) ∨ ((fieldF z rd l ⟨a, 0, 0⟩).2.why ≠ 0 ∧ (fieldF z rd l ⟨a, 0, 0⟩).2.fat = a) := by
  unfold fieldF
  rw [if_pos ⟨rfl, rfl⟩]
  by_cases h : (rd (l.drop a)).2.2 = 0
  · rw [if_pos h]
    exact .inl ⟨rfl, rfl, took l m a _ _ hm (he h)⟩
  · rw [if_neg h]
    exact .inr ⟨h, rfl⟩
/-- The loop's state. -/
structure One (W : World) (gr : Nat) (A : Option Addr) (c : Nat) (l : List UInt8) (gw : Nat) (s : Rs) (v : Value) (m : List UInt8) (wr : World) : Prop where
  rst : Rst gr A c l s wr
  wst : Wst gw 27 gw v m wr
  bel : Below W.heap.size W wr
theorem One.read {W : World} {gr : Nat} {A : Option Addr} {c : Nat} {l : List UInt8} {gw : Nat} {s s' : Rs} {v : Value} {m : List UInt8} {wr wr' : World} (h : One W gr A c l gw s v m wr) (hW : W.heap.size ≤ gr) (hg : gr < gw) (hr : Rst gr A c l s' wr') (hb : But gr wr wr') : One W gr A c l gw s' v m wr' :=
  ⟨hr, h.wst.but hb hg (Nat.le_refl _), h.bel.trans (hb.below hW h.bel.size)⟩
theorem One.wrote {W : World} {gr : Nat} {A : Option Addr} {c : Nat} {l : List UInt8} {gw : Nat} {s : Rs} {v v' : Value} {m m' : List UInt8} {wr wr' : World} (h : One W gr A c l gw s v m wr) (hW : W.heap.size ≤ gr) (hg : gr < gw) (hw : Wst gw 27 gw v' m' wr') (ht : Turn gw v v' wr wr') : One W gr A c l gw s v' m' wr' :=
  have hb := ht.below h.wst (Nat.le_refl _)
  ⟨h.rst.belowB hb hg, hw, h.bel.trans (hb.mono (by omega))⟩
theorem One.below {W : World} {gr : Nat} {A : Option Addr} {c : Nat} {l : List UInt8} {gw : Nat} {s : Rs} {v : Value} {m : List UInt8} {wr wr' : World} (h : One W gr A c l gw s v m wr) (hb : Below wr.heap.size wr wr') : One W gr A c l gw s v m wr' :=
  ⟨h.rst.below hb, h.wst.below hb, h.bel.trans (hb.mono h.bel.size)⟩
end Go.Proofs.Ytinilglljjffjaa.Cd
