/- Two keys compared. -/
import Derived.Test.YtinilglljjffjaaCRef
import Derived.ChangeKeysEq
namespace Go.Proofs.Ytinilglljjffjaa.Cd
set_option linter.unusedVariables false
set_option linter.unusedSimpArgs false
open Go.RowKit
open Go.Proofs.Ytinilglljjffjaa.Num
section
variable {P : Program}
theorem eqItems_bytes (w : World) (d : Nat) (e : TypeId) (he : P.underlying e = some (.int .u8)) (xs ys : List UInt8) : ∀ is : List Nat, (∀ i ∈ is, i < xs.length ∧ i < ys.length) →
    (Op.eqItems (d + 1) e 1 (xs.map v8).toArray (ys.map v8).toArray is).run P w = .ok (is.all fun i => xs[i]? == ys[i]?) w
  | [], _ => by simp [Op.eqItems]
  | i :: is, h => by
    obtain ⟨hx, hy⟩ := h i List.mem_cons_self
    have ih := eqItems_bytes w d e he xs ys is (fun j hj => h j (List.mem_cons_of_mem _ hj))
    have hp : P.plainKey e = true := by unfold Program.plainKey; rw [he]
    have p1 := run_part_plain (P := P) w hp (xs := (xs.map v8).toArray) (off := i * 1) (v := v8 xs[i]) (by simp [hx])
    have p2 := run_part_plain (P := P) w hp (xs := (ys.map v8).toArray) (off := i * 1) (v := v8 ys[i]) (by simp [hy])
    have p3 := run_equalIn_int (P := P) w d e .u8 .u8 (xs[i].toNat : Int) (ys[i].toNat : Int) he
    have p4 : ((xs[i].toNat : Int) == (ys[i].toNat : Int)) = (xs[i]? == ys[i]?) := by
      rw [List.getElem?_eq_getElem hx, List.getElem?_eq_getElem hy]
      by_cases hq : xs[i] = ys[i]
      · simp [hq]
      · rw [beq_eq_false_iff_ne.2 (fun h => hq (UInt8.toNat_inj.1 (by omega))), beq_eq_false_iff_ne.2 (fun h => hq (Option.some.inj h))]
    unfold Op.eqItems
    simp only [Sem.run_bind, p1, p2, Result.andThen_ok]
    rw [show v8 xs[i] = Value.int .u8 (xs[i].toNat : Int) from rfl, show v8 ys[i] = Value.int .u8 (ys[i].toNat : Int) from rfl, p3]
    simp only [Result.andThen_ok, p4, List.all_cons]
    cases xs[i]? == ys[i]? with
    | true => simpa using ih
    | false => simp
end
theorem keys_all (xs ys : List UInt8) (hx : xs.length = 8) (hy : ys.length = 8) : ((List.range 8).all fun i => xs[i]? == ys[i]?) = decide (xs = ys) := by
  by_cases h : xs = ys
  · subst h; simp
  · rw [decide_eq_false h]
    rw [List.all_eq_false]
    refine Classical.byContradiction fun hn => h (List.ext_getElem? fun i => ?_)
    by_cases hi : i < 8
    · refine Classical.byContradiction fun hne => hn ⟨i, List.mem_range.2 hi, ?_⟩
      simpa using hne
    · rw [List.getElem?_eq_none (by omega), List.getElem?_eq_none (by omega)]
theorem info8k : ∃ i, Try.prog.info? 5 = some i := by
  obtain ⟨i, hi, _⟩ := info_parts info8
  exact ⟨i, hi⟩
theorem cells8k : Try.prog.cellsOf 5 = 1 := by kernel_rfl
theorem run_keys_eq (w : World) (xs ys : List UInt8) (hx : xs.length = 8) (hy : ys.length = 8) : (Op.equalIn 10000 55 (keyV xs) (keyV ys)).run Try.prog w = .ok (decide (xs = ys)) w := by
  obtain ⟨i, hi⟩ := info8k
  unfold keyV
  rw [run_equalIn_array (P := Try.prog) w 9999 (xs.map v8).toArray (ys.map v8).toArray Try.underlying55 hi, cells8k]
  rw [eqItems_bytes w 9998 5 Try.underlying5 xs ys (List.range 8) (fun j hj => by have := List.mem_range.1 hj; omega), keys_all xs ys hx hy]
end Go.Proofs.Ytinilglljjffjaa.Cd
