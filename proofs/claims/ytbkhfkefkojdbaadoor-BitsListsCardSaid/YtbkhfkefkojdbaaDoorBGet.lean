/- The walks of numbers read out of bytes: the program's Get and the reference's, and the comparison of bytes. -/
import Derived.Test.YtbkhfkefkojdbaaDoorBPut
import Derived.Laws.BytesArg
import Derived.Laws.BytesString
import Derived.Laws.Strings
namespace Go.Proofs.YtbkhfkefkojdbaaDoor.Num
set_option linter.unusedVariables false
set_option linter.unusedSimpArgs false
open Go.RowKit

theorem size8 : ∀ w, (sizeOf (Tryd.prog.elem 22)).run Tryd.prog w = .ok 1 w := fun w => by kernel_rfl

set_option maxRecDepth 100000 in
theorem get_calls (a : Option Addr) (c : Nat) (l : List UInt8) (s : Nat) (w : World) (hr : Row8 w a l) (hc : l.length ≤ c) (h1 : 1 ≤ s) (h8 : s ≤ 8) (hs : s ≤ l.length) :
    Calls Tryd.prog 20 #[.slice a l.length c, .int .i64 (s : Int)] w fun e w' => e = .returned (.tuple #[.int .u64 (num (l.take s) : Int), .int .i64 0]) ∧ w = w' := by
  have S1 := sl_hi (P := Tryd.prog) (t := 22) Tryd.underlying22 size8 a l.length c s (by omega)
  obtain ⟨x, rfl, hcell⟩ : ∃ x, a = some x ∧ ∀ i : Nat, ∀ h : i < l.length, w.cell? (x.add i) = some (.int .u8 (l[i].toNat : Int)) := by
    rcases hr with rfl | h
    · simp at hs; omega
    · exact h
  have h9 : ¬ (8 : Int) < (s : Int) := by omega
  have h10 : ¬ (s : Int) < 1 := by omega
  have h11 : ¬ (l.length : Int) < (s : Int) := by omega
  have G := Lib.hid (And.intro hcell hs)
  clear hcell hs hc hr
  go_enter Tryd.func20, Tryd.ntmps20
  go_wp2_with fail
  go_loop [6, 25] (fun n i => ∃ k : Nat, k ≤ s ∧ i = .int .i64 (k : Int) ∧ n = .int .u64 ((num (l.take k) : Nat) : Int)) (fun _ i => s - (intOf i).toNat)
  case atStart => exact ⟨0, by omega, rfl, rfl⟩
  case round =>
    obtain ⟨k, hk, rfl, rfl⟩ := hrel
    by_cases hlt : k < s
    · have hkl : k < l.length := by have := G.out.2; omega
      have hck := G.out.1 k hkl
      go_wp2_with fail
      go_round
      case rel => exact ⟨k + 1, by omega, by go_num, by rw [get_prog l k s hkl hlt h8]⟩
      case measure => (first | (simp [intOf]; done) | (simp [intOf]; omega))
    · obtain rfl : k = s := by omega
      go_wp2_with fail
      go_ret2
      exact ⟨rfl, rfl⟩

/-- The text of bytes. -/
def txt (l : List UInt8) : ByteArray := ⟨l.toArray⟩
theorem txt_list (l : List UInt8) : (txt l).toList = l := by
  rw [ByteArray.toList_eq]; rfl
theorem beq_dec (l l' : List UInt8) : (l == l') = decide (l = l') := by
  by_cases h : l = l'
  · subst h; simp
  · rw [decide_eq_false h, beq_eq_false_iff_ne]; exact h
theorem spot_none {w : World} {x : Addr} {v : Value} (h : w.cell? x = some v) : x.spot = none := by
  unfold World.cell? at h
  split at h
  · cases e : x.spot with
    | none => rfl
    | some s => rw [e] at h; simp at h
  · cases h
/-- 'string(b)' of any bytes. -/
theorem conv_row {P : Program} {src e dst : TypeId} (hs : P.underlying src = some (.slice e)) (he : P.underlying e = some (.int .u8)) (hd : P.underlying dst = some .string) {w : World} {a : Option Addr} {l : List UInt8} (hr : Row8 w a l) (c : Nat) :
    (convert src dst (.slice a l.length c)).run P w = .ok (.string (txt l)) w := by
  rcases hr with rfl | ⟨x, rfl, hcell⟩
  · rw [show ([] : List UInt8).length = 0 from rfl, run_convert_bytes_string w src dst e a 0 c hs he hd]
    cases a <;> simp [Conv.bytesToString, loadCells]
    all_goals rfl
  · cases l with
    | nil =>
      rw [run_convert_bytes_string w src dst e _ _ c hs he hd]
      simp [Conv.bytesToString, loadCells]
      rfl
    | cons y m =>
      have h0 := hcell 0 (by simp)
      have e0 : x.add 0 = x := by simp [Addr.add]
      rw [e0] at h0
      have hsp := spot_none h0
      obtain ⟨b, off, spot⟩ := x
      simp only at hsp
      subst hsp
      have key := run_convert_bytes_arg (P := P) w src e hs he b off (y :: m).length c ((y :: m).map fun z : UInt8 => (z.toNat : Int)) (by simp) (fun i hi => by
        have hc := hcell i hi
        have e1 : (⟨b, off, none⟩ : Addr).add i = ⟨b, off + i, none⟩ := by unfold Addr.add; split <;> simp_all
        rw [e1] at hc
        rw [hc]
        rw [List.getD_eq_getElem?_getD, List.getElem?_map, List.getElem?_eq_getElem hi]; rfl) dst hd
      rw [key]
      congr 2
      unfold strOfNums txt
      congr 1
      rw [List.map_map, show ((fun n : Int => UInt8.ofNat n.toNat) ∘ fun z : UInt8 => (z.toNat : Int)) = id from by funext z; simp, List.map_id]
set_option maxRecDepth 100000 in
/-- 'string(a) == string(b)'. -/
theorem same_calls (a : Option Addr) (c : Nat) (l : List UInt8) (a' : Option Addr) (c' : Nat) (l' : List UInt8) (w : World) (hr : Row8 w a l) (hr' : Row8 w a' l') :
    Calls Tryd.prog 10 #[.slice a l.length c, .slice a' l'.length c'] w fun e w' => e = .returned (.bool (decide (l = l'))) ∧ w = w' := by
  have k1 := conv_row (P := Tryd.prog) (src := 22) (dst := 9) Tryd.underlying22 Tryd.underlying5 Tryd.underlying9 hr c
  have k2 := conv_row (P := Tryd.prog) (src := 22) (dst := 9) Tryd.underlying22 Tryd.underlying5 Tryd.underlying9 hr' c'
  go_enter Tryd.func10, Tryd.ntmps10
  go_wp2_with fail
  go_ret
  refine ⟨?_, rfl⟩
  rw [txt_list, txt_list, beq_dec]
  rfl
end Go.Proofs.YtbkhfkefkojdbaaDoor.Num
