/- The text of bytes, and the comparison of bytes. -/
import Derived.Test.YtinilglljjffjaaCW
import Derived.Laws.BytesArg
import Derived.Laws.BytesString
import Derived.Laws.Strings
import Derived.Laws.IdiomStrings
namespace Go.Proofs.Ytinilglljjffjaa.Num
set_option linter.unusedVariables false
set_option linter.unusedSimpArgs false
open Go.RowKit
/-- The text of bytes. -/
def txt (l : List UInt8) : ByteArray := ⟨l.toArray⟩
theorem txt_list (l : List UInt8) : (txt l).toList = l := by
  rw [ByteArray.toList_eq]; rfl
theorem beq_dec (l l' : List UInt8) : (l == l') = decide (l = l') := by
  by_cases h : l = l'
  · subst h; simp
  · rw [decide_eq_false h, beq_eq_false_iff_ne]; exact h
theorem spot_none {w : World} {x : Addr} {v : Value} (h : w.cell? x = some v) : x.spot = none := by
  unfold World.cell? at h
  split at h
  · cases e : x.spot with
    | none => rfl
    | some s => rw [e] at h; simp at h
  · cases h
/-- 'string(b)' of any bytes. -/
theorem conv_row {P : Program} {src e dst : TypeId} (hs : P.underlying src = some (.slice e)) (he : P.underlying e = some (.int .u8)) (hd : P.underlying dst = some .string) {w : World} {a : Option Addr} {l : List UInt8} (hr : Row8 w a l) (c : Nat) :
    (convert src dst (.slice a l.length c)).run P w = .ok (.string (txt l)) w := by
  rcases hr with rfl | ⟨x, rfl, hcell⟩
  · rw [show ([] : List UInt8).length = 0 from rfl, run_convert_bytes_string w src dst e a 0 c hs he hd]
    cases a <;> simp [Conv.bytesToString, loadCells]
    all_goals rfl
  · cases l with
    | nil =>
      rw [run_convert_bytes_string w src dst e _ _ c hs he hd]
      simp [Conv.bytesToString, loadCells]
      rfl
    | cons y m =>
      have h0 := hcell 0 (by simp)
      have e0 : x.add 0 = x := by simp [Addr.add]
      rw [e0] at h0
      have hsp := spot_none h0
      obtain ⟨b, off, spot⟩ := x
      simp only at hsp
      subst hsp
      have key := run_convert_bytes_arg (P := P) w src e hs he b off (y :: m).length c ((y :: m).map fun z : UInt8 => (z.toNat : Int)) (by simp) (fun i hi => by
        have hc := hcell i hi
        have e1 : (⟨b, off, none⟩ : Addr).add i = ⟨b, off + i, none⟩ := by unfold Addr.add; split <;> simp_all
        rw [e1] at hc
        rw [hc]
        rw [List.getD_eq_getElem?_getD, List.getElem?_map, List.getElem?_eq_getElem hi]; rfl) dst hd
      rw [key]
      congr 2
      unfold strOfNums txt
      congr 1
      rw [List.map_map, show ((fun n : Int => UInt8.ofNat n.toNat) ∘ fun z : UInt8 => (z.toNat : Int)) = id from by funext z; simp, List.map_id]
set_option maxRecDepth 100000 in
/-- 'string(a) == string(b)'. -/
theorem same_calls (a : Option Addr) (c : Nat) (l : List UInt8) (a' : Option Addr) (c' : Nat) (l' : List UInt8) (w : World) (hr : Row8 w a l) (hr' : Row8 w a' l') :
    Calls Try.prog 12 #[.slice a l.length c, .slice a' l'.length c'] w fun e w' => e = .returned (.bool (decide (l = l'))) ∧ w = w' := by
  have k1 := conv_row (P := Try.prog) (src := 25) (dst := 9) Try.underlying25 Try.underlying5 Try.underlying9 hr c
  have k2 := conv_row (P := Try.prog) (src := 25) (dst := 9) Try.underlying25 Try.underlying5 Try.underlying9 hr' c'
  go_enter Try.func12, Try.ntmps12
  go_wp2_with fail
  go_ret
  refine ⟨?_, rfl⟩
  rw [txt_list, txt_list, beq_dec]
  rfl
end Go.Proofs.Ytinilglljjffjaa.Num
