/- What was written is read: each field's bytes, with whatever behind them. No program is in sight. -/
import Derived.Test.YtinilglljjffjaaCWrs
namespace Go.Proofs.Ytinilglljjffjaa.Cd
set_option linter.unusedVariables false
set_option linter.unusedSimpArgs false
open Go.Proofs.Ytinilglljjffjaa.Num

theorem field_back {α : Type} (z : α) (rd : List UInt8 → α × Nat × Nat) (p e r : List UInt8) (v : α) (h : rd (e ++ r) = (v, e.length, 0)) : fieldF z rd (p ++ (e ++ r)) ⟨p.length, 0, 0⟩ = (v, ⟨(p ++ e).length, 0, 0⟩) := by
  unfold fieldF
  rw [if_pos ⟨rfl, rfl⟩]
  simp only [List.drop_left, h, List.length_append]
  rfl
theorem back_num (most n : Nat) (hn : n < 18446744073709551616) (hm : n ≤ most) (r : List UInt8) : readF most (short n ++ r) = (n, (short n).length, 0) := by
  unfold readF
  rw [long_short n hn r]
  simp only
  rw [if_neg (by omega)]
theorem back_one (x : UInt8) (r : List UInt8) : oneF ([x] ++ r) = (x.toNat, [x].length, 0) := rfl
theorem back_truth (b : Bool) (r : List UInt8) : truthF ([tF b] ++ r) = (b, [tF b].length, 0) := by cases b <;> rfl
theorem back_text (most : Nat) (m : List UInt8) (hm : m.length < 18446744073709551616) (h : m.length ≤ most) (r : List UInt8) : textR most (textF m ++ r) = (m, (textF m).length, 0) := by
  unfold textR textF
  rw [List.append_assoc, back_num most m.length hm h]
  unfold textG
  simp only [if_true, List.length_append, List.drop_left, List.take_left]
  rw [if_neg (by omega)]
theorem back_key (k r : List UInt8) (hk : k.length = 8) : keyR (k ++ r) = (k, k.length, 0) := by
  unfold keyR
  rw [if_neg (by rw [List.length_append]; omega), ← hk, List.take_left]
theorem encL_split (q : List Fd) (k : Nat) (hk : k < q.length) : encL q = encL (q.take k) ++ (encF q[k] ++ encL (q.drop (k + 1))) := by
  have h : q = q.take k ++ q[k] :: q.drop (k + 1) := by
    rw [List.getElem_cons_drop, List.take_append_drop]
  have e : encL q = encL (q.take k ++ q[k] :: q.drop (k + 1)) := congrArg encL h
  rw [e]
  unfold encL
  rw [List.flatMap_append, List.flatMap_cons]
end Go.Proofs.Ytinilglljjffjaa.Cd
