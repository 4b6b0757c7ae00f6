/- The walk of a law of crc: the sum of two texts out of theirs; zeros behind, however many. -/
import Derived.Test.YtocbogagfdbcmaaCrcLaw2
import Derived.Test.YtocbogagfdbcmaaApp
import Derived.Test.YtocbogagfdbcmaaCrcRel
import Derived.Laws.MakeOwn
import Derived.Deep.OwnRows
import Derived.Deep.Cut
import Derived.Deep.CutRange
namespace Go.Proofs.Ytocbogagfdbcmaa.Crc
set_option linter.unusedVariables false
set_option linter.unusedSimpArgs false
open Go.RowKit
open Go.Proofs.Ytocbogagfdbcmaa.Rel

theorem info8 : (Try.prog.info? 5).map (fun i => (i.zero, i.size, i.bytes)) = some (some (.int .u8 0), 1, 1) := by kernel_rfl
theorem made_eq (v : Value) (k : Nat) : madeCells #[v] k = Array.replicate k v := by
  apply Array.ext
  · simp [madeCells]
  · intro i h1 h2
    simp [madeCells, Nat.mod_one]
theorem Row8.made {w : World} {g k : Nat} (hz : w.heap[g]? = some (.cells (madeCells #[.int .u8 0] k) 5 (0, 0))) : Row8 w (some ⟨g, 0, none⟩) (List.replicate k 0) :=
  Row8.lit hz (by rw [made_eq]; simp [List.map_replicate])
theorem sum2z {w0 W : World} (g gz k : Nat) (zs : List UInt8) (he : zs = List.replicate k 0) (a : Option Addr) (c : Nat) (l : List UInt8) (h1 : Row8 w0 a l) (k1 : l.length ≤ 9223372036854775807) (k2 : k ≤ 9223372036854775807) (hb : Below w0.heap.size w0 W)
    (hz : W.heap[gz]? = some (.cells (madeCells #[.int .u8 0] k) 5 (0, 0)))
    (hg : W.heap[g]? = some (.cells #[.slice a l.length c, .slice (some ⟨gz, 0, none⟩) k k] 22 (0, 0))) :
    Calls Try.prog 11 #[.slice (some ⟨g, 0, none⟩) 2 2] W fun e w' => e = .returned (.int .u32 (u (more 0#32 (l ++ zs)))) ∧ W = w' := by
  subst he
  exact  sum2 g a _ c k l (List.replicate k 0) (h1.below hb) (Row8.made hz) k1 (by simpa using k2) (Below.refl _ _) (by simpa using hg)

theorem join_from {w W : World} (hW : Below w.heap.size w W) (a b : BitVec 32) (n : Nat) (hn : n < 4294967296) :
    Calls Try.prog 16 #[.int .u32 (u a), .int .u32 (u b), .int .u32 (n : Int)] W fun e w' => e = .returned (.int .u32 (u (zeros n a ^^^ b))) ∧ Below w.heap.size w w' ∧ Hid (∀ (k : Nat) (o : Obj), W.heap[k]? = some o → w'.heap[k]? = some o) ∧ w.heap.size ≤ w'.heap.size :=
  (join_calls a b n W hn).mono fun _ _ ⟨he, hb⟩ => ⟨he, hW.trans (hb.mono hW.size), Lib.hid (carry hb), Nat.le_trans hW.size hb.size⟩
theorem zeros_from {w W : World} (hW : Below w.heap.size w W) (a : BitVec 32) (n : Nat) (hn : n < 4294967296) :
    Calls Try.prog 14 #[.int .u32 (u a), .int .u32 (n : Int)] W fun e w' => e = .returned (.int .u32 (u (~~~ zeros n (~~~ a)))) ∧ Below w.heap.size w w' ∧ Hid (∀ (k : Nat) (o : Obj), W.heap[k]? = some o → w'.heap[k]? = some o) ∧ w.heap.size ≤ w'.heap.size :=
  (zeros_calls a n W hn).mono fun _ _ ⟨he, hb⟩ => ⟨he, hW.trans (hb.mono hW.size), Lib.hid (carry hb), Nat.le_trans hW.size hb.size⟩
theorem alive_from {w W : World} (hW : Below w.heap.size w W) :
    Calls Try.prog 10 #[] W fun e w' => e = .returned (.bool true) ∧ Below w.heap.size w w' :=
  (alive_calls W).mono fun _ _ ⟨he, hb⟩ => ⟨he, hW.trans (hb.mono hW.size)⟩

theorem lt32 {i : Nat} (h : i < 32) : i = 0 ∨ i = 1 ∨ i = 2 ∨ i = 3 ∨ i = 4 ∨ i = 5 ∨ i = 6 ∨ i = 7 ∨ i = 8 ∨ i = 9 ∨ i = 10 ∨ i = 11 ∨ i = 12 ∨ i = 13 ∨ i = 14 ∨ i = 15 ∨ i = 16 ∨ i = 17 ∨ i = 18 ∨ i = 19 ∨ i = 20 ∨ i = 21 ∨ i = 22 ∨ i = 23 ∨ i = 24 ∨ i = 25 ∨ i = 26 ∨ i = 27 ∨ i = 28 ∨ i = 29 ∨ i = 30 ∨ i = 31 := by omega
/-- Where an operation of the last region leaves its value. -/
def slot9 (i : Nat) : Nat := if i = 31 then 6 else 49 + i
theorem slot9_inj : ∀ j, j < 32 → ∀ i, i < 32 → j ≠ i → slot9 j ≠ slot9 i := by
  intro j hj i hi h
  unfold slot9
  split <;> split <;> omega
def act80 (t : Nat → Value) : Act := { tmps := #[t 0, t 1, t 2, t 3, t 4, t 5, t 6, t 7, t 8, t 9, t 10, t 11, t 12, t 13, t 14, t 15, t 16, t 17, t 18, t 19, t 20, t 21, t 22, t 23, t 24, t 25, t 26, t 27, t 28, t 29, t 30, t 31, t 32, t 33, t 34, t 35, t 36, t 37, t 38, t 39, t 40, t 41, t 42, t 43, t 44, t 45, t 46, t 47, t 48, t 49, t 50, t 51, t 52, t 53, t 54, t 55, t 56, t 57, t 58, t 59, t 60, t 61, t 62, t 63, t 64, t 65, t 66, t 67, t 68, t 69, t 70, t 71, t 72, t 73, t 74, t 75, t 76, t 77, t 78, t 79], defers := [] }
theorem wp_lit {P : Program} {C : Code} {Q : Exit → Act → World → Prop} {w : World} (T : Array Value) (h : C.wp P Q (act80 fun k => T.getD k undef) w) (hT : (act80 fun k => T.getD k undef) = { tmps := T, defers := [] }) : C.wp P Q { tmps := T, defers := [] } w := hT ▸ h
/-- What each operation of the last region leaves. -/
def R9 (a : Option Addr) (c : Nat) (l : List UInt8) (a' : Option Addr) (c' : Nat) (l' : List UInt8) (k : Nat) : Nat → Value → World → Prop
  | 0, v, w => v = .slice a l.length c
  | 1, v, w => ∃ g : Nat, v = .slice (some ⟨g, 0, none⟩) 1 1 ∧ w.heap[g]? = some (.cells #[.slice a l.length c] 22 (0, 0))
  | 2, v, w => v = .int .u32 (u (more 0#32 l))
  | 3, v, w => v = .slice a' l'.length c'
  | 4, v, w => ∃ g : Nat, v = .slice (some ⟨g, 0, none⟩) 1 1 ∧ w.heap[g]? = some (.cells #[.slice a' l'.length c'] 22 (0, 0))
  | 5, v, w => v = .int .u32 (u (more 0#32 l'))
  | 6, v, w => v = .slice a' l'.length c'
  | 7, v, w => v = .int .i64 (l'.length : Int)
  | 8, v, w => v = .int .u32 (l'.length : Int)
  | 9, v, w => v = .int .u32 (u (more 0#32 (l ++ l')))
  | 10, v, w => v = .slice a l.length c
  | 11, v, w => v = .slice a' l'.length c'
  | 12, v, w => ∃ g : Nat, v = .slice (some ⟨g, 0, none⟩) 2 2 ∧ w.heap[g]? = some (.cells #[.slice a l.length c, .slice a' l'.length c'] 22 (0, 0))
  | 13, v, w => v = .int .u32 (u (more 0#32 (l ++ l')))
  | 14, v, w => v = .bool true
  | 15, v, w => v = .bool true
  | 16, v, w => v = .slice a l.length c
  | 17, v, w => ∃ g : Nat, v = .slice (some ⟨g, 0, none⟩) 1 1 ∧ w.heap[g]? = some (.cells #[.slice a l.length c] 22 (0, 0))
  | 18, v, w => v = .int .u32 (u (more 0#32 l))
  | 19, v, w => v = .int .u32 (k : Int)
  | 20, v, w => v = .int .u32 (u (more 0#32 (l ++ List.replicate k 0)))
  | 21, v, w => v = .slice a l.length c
  | 22, v, w => v = .int .u32 (k : Int)
  | 23, v, w => ∃ gz : Nat, v = .slice (some ⟨gz, 0, none⟩) k k ∧ w.heap[gz]? = some (.cells (madeCells #[.int .u8 0] k) 5 (0, 0))
  | 24, v, w => ∃ g gz : Nat, v = .slice (some ⟨g, 0, none⟩) 2 2 ∧ w.heap[g]? = some (.cells #[.slice a l.length c, .slice (some ⟨gz, 0, none⟩) k k] 22 (0, 0)) ∧ w.heap[gz]? = some (.cells (madeCells #[.int .u8 0] k) 5 (0, 0))
  | 25, v, w => v = .int .u32 (u (more 0#32 (l ++ List.replicate k 0)))
  | 26, v, w => v = .bool true
  | 27, v, w => v = .bool true
  | 28, v, w => v = .bool true
  | 29, v, w => v = .bool true
  | 30, v, w => v = .bool true
  | 31, v, w => v = .bool true
  | _, _, _ => True
theorem R9.mono (a : Option Addr) (c : Nat) (l : List UInt8) (a' : Option Addr) (c' : Nat) (l' : List UInt8) (k : Nat) {w w' : World} (hb : Below w.heap.size w w') : ∀ i v, R9 a c l a' c' l' k i v w → R9 a c l a' c' l' k i v w' := by
  intro i v h
  have hk := carry hb
  rcases Nat.lt_or_ge i 32 with hi | hi
  · rcases lt32 hi with rfl | rfl | rfl | rfl | rfl | rfl | rfl | rfl | rfl | rfl | rfl | rfl | rfl | rfl | rfl | rfl | rfl | rfl | rfl | rfl | rfl | rfl | rfl | rfl | rfl | rfl | rfl | rfl | rfl | rfl | rfl | rfl
    all_goals first
      | exact h
      | (obtain ⟨g, h1, h2⟩ := h; exact ⟨g, h1, hk _ _ h2⟩)
      | (obtain ⟨g, gz, h1, h2, h3⟩ := h; exact ⟨g, gz, h1, hk _ _ h2, hk _ _ h3⟩)
  · match i, hi with
    | i + 32, _ => exact True.intro
theorem rep_false {n j : Nat} (h : (Array.replicate n false).getD j false = true) : False := by
  rw [Array.getD_eq_getD_getElem?, Array.getElem?_replicate] at h
  split at h <;> simp at h
/-- The state of the last region: what has come up has left what it should. -/
def I9 (w0 : World) (a : Option Addr) (c : Nat) (l : List UInt8) (a' : Option Addr) (c' : Nat) (l' : List UInt8) (k : Nat) (listed : Array Bool) (x : Act) (w : World) : Prop :=
  ∃ t : Nat → Value, x = act80 t ∧ t 0 = .slice a l.length c ∧ t 1 = .slice a' l'.length c' ∧ t 11 = .int .u32 (k : Int) ∧ Below w0.heap.size w0 w ∧ listed.size = 32 ∧ ∀ j, listed.getD j false = true → R9 a c l a' c' l' k j (t (slot9 j)) w
theorem step9 {w0 : World} {a : Option Addr} {c : Nat} {l : List UInt8} {a' : Option Addr} {c' : Nat} {l' : List UInt8} {k : Nat} {listed : Array Bool} {t : Nat → Value} {w : World} (h0 : t 0 = .slice a l.length c) (h1 : t 1 = .slice a' l'.length c') (h11 : t 11 = .int .u32 (k : Int)) (hb : Below w0.heap.size w0 w) (hls : listed.size = 32) (hrel : ∀ j, listed.getD j false = true → R9 a c l a' c' l' k j (t (slot9 j)) w)
    (i : Nat) (hi : i < 32) (v : Value) (x : Act) (w' : World) (hx : x = act80 (upd t (slot9 i) v)) (hw : Below w.heap.size w w') (hv : R9 a c l a' c' l' k i v w') : I9 w0 a c l a' c' l' k (listed.setIfInBounds i true) x w' := by
  have hs : slot9 i ≠ 0 ∧ slot9 i ≠ 1 ∧ slot9 i ≠ 11 := by unfold slot9; split <;> omega
  refine ⟨upd t (slot9 i) v, hx, ?_, ?_, ?_, hb.trans (hw.mono hb.size), by simpa using hls, ?_⟩
  · rw [upd_other _ _ _ _ (Ne.symm hs.1)]; exact h0
  · rw [upd_other _ _ _ _ (Ne.symm hs.2.1)]; exact h1
  · rw [upd_other _ _ _ _ (Ne.symm hs.2.2)]; exact h11
  · exact rel_upd hrel (fun j v h => R9.mono a c l a' c' l' k hw j v h) i v hv (fun j hj hne => slot9_inj j (by omega) i hi hne)
end Go.Proofs.Ytocbogagfdbcmaa.Crc
