/- Plain facts on frames. No program is in sight. -/
import Derived.Test.YtjngekbgfinidaaCrcPlain
import Derived.Test.YtjngekbgfinidaaNumPlain
namespace Go.Proofs.Ytjngekbgfinidaa.Fr
set_option linter.unusedVariables false
set_option linter.unusedSimpArgs false
open Go.Proofs.Ytjngekbgfinidaa.Num Go.Proofs.Ytjngekbgfinidaa.Crc

/-- The sum of the length's two bytes and the load. -/
def sumOf (l : List UInt8) : BitVec 32 := more 0#32 (be 2 l.length ++ l)
/-- A frame's beginning. -/
def head (l : List UInt8) : List UInt8 := [0xA7, 0x5E] ++ be 2 l.length ++ be 4 (sumOf l).toNat
theorem length_head (l : List UInt8) : (head l).length = 8 := by unfold head; simp [length_be]
/-- A frame. -/
def frame (l : List UInt8) : List UInt8 := head l ++ l
theorem length_frame (l : List UInt8) : (frame l).length = 8 + l.length := by unfold frame; rw [List.length_append, length_head]

/-- How many bytes the frame has that bytes begin with, and the error. -/
def sizeF : List UInt8 → Nat × Nat
  | [] => (0, 4)
  | y :: l => if y ≠ 0xA7 then (0, 3) else
    match l with
    | [] => (0, 4)
    | z :: l => if z ≠ 0x5E then (0, 3) else
      match l with
      | p :: q :: _ => if 4096 < num [p, q] then (0, 3) else (8 + num [p, q], 0)
      | _ => (0, 4)
/-- The frame that bytes begin with: its load, how many bytes it has, the error. -/
def nextF (b : List UInt8) : List UInt8 × Nat × Nat :=
  if (sizeF b).2 ≠ 0 then ([], 0, (sizeF b).2)
  else if b.length < (sizeF b).1 then ([], 0, 4)
  else if b.take 8 = head ((b.drop 8).take ((sizeF b).1 - 8)) then ((b.drop 8).take ((sizeF b).1 - 8), (sizeF b).1, 0)
  else ([], 0, 8)
theorem sizeF_le (b : List UInt8) : (sizeF b).1 ≤ 4104 ∧ (sizeF b).2 ≤ 4 ∧ ((sizeF b).2 = 0 → 8 ≤ (sizeF b).1) := by
  match b with
  | [] => simp [sizeF]
  | y :: l =>
    by_cases hy : y = 0xA7
    · subst hy
      match l with
      | [] => simp [sizeF]
      | z :: l =>
        by_cases hz : z = 0x5E
        · subst hz
          match l with
          | [] => simp [sizeF]
          | [p] => simp [sizeF]
          | p :: q :: t =>
            simp only [sizeF, ne_eq, not_true_eq_false, if_false]
            split <;> simp <;> omega
        · simp [sizeF, hz]
    · simp [sizeF, hy]
end Go.Proofs.Ytjngekbgfinidaa.Fr
