/- What a slice of bytes in memory reads as, and that it stays so. No program is in sight. -/
import Derived.WalkKit
import Derived.Deep.Draws
import Derived.Laws.IdiomCopy
namespace Go.Proofs.Ytocbogagfdbcmaa
set_option linter.unusedVariables false
set_option linter.unusedSimpArgs false
open Go.RowKit

/-- The bytes l stand in a row from a on (of no bytes nothing is said). -/
def Row8 (w : World) (a : Option Addr) (l : List UInt8) : Prop :=
  l = [] ∨ ∃ x, a = some x ∧ ∀ i : Nat, ∀ h : i < l.length, w.cell? (x.add i) = some (.int .u8 (l[i].toNat : Int))
theorem Row8.below {w w1 : World} {a : Option Addr} {l : List UInt8} (h : Row8 w a l) (hb : Below w.heap.size w w1) : Row8 w1 a l := by
  rcases h with h | ⟨x, hx, hc⟩
  · exact .inl h
  · refine .inr ⟨x, hx, fun i hi => ?_⟩
    have := hc i hi
    exact (hb.cell (World.block_lt_of_cell? w _ this)).trans this
theorem heap_alloc_new (w : World) (o : Obj) : (w.alloc o).heap[w.heap.size]? = some o := by
  show (w.heap.push o)[w.heap.size]? = some o
  simp
theorem cell_drewN (w : World) (n : Nat) (a : Addr) : (w.drewN n).cell? a = w.cell? a := rfl
theorem below_drewN {B : Nat} {w W : World} (h : Below B w W) (n : Nat) : Below B w (W.drewN n) := ⟨h.os, h.tape, h.output, h.size, h.block⟩
/-- A literal's row. -/
theorem Row8.lit {w : World} {b : Nat} {l : List UInt8} {C : Array Value} {T : TypeId} {f : Nat × Nat} (h : w.heap[b]? = some (.cells C T f)) (hC : C = (l.map fun x : UInt8 => Value.int .u8 (x.toNat : Int)).toArray) : Row8 w (some ⟨b, 0, none⟩) l := by
  refine .inr ⟨_, rfl, fun i hi => ?_⟩
  subst hC
  by_cases e : i = 0
  · subst e; simp [World.cell?, Addr.add, h, List.getElem?_eq_getElem hi]
  · simp [World.cell?, Addr.add, h, e, List.getElem?_eq_getElem hi]
theorem cell_block {w : World} {b i : Nat} {C : Array Value} {T : TypeId} {f : Nat × Nat} (h : w.heap[b]? = some (.cells C T f)) : w.cell? ((⟨b, 0, none⟩ : Addr).add i) = C[i]? := by
  by_cases e : i = 0
  · subst e; simp [World.cell?, Addr.add, h]
  · simp [World.cell?, Addr.add, h, e]
theorem heap_alloc_old (w : World) (o : Obj) {k : Nat} (h : k < w.heap.size) : (w.alloc o).heap[k]? = w.heap[k]? := Below.heap_alloc w o k h
theorem three_blocks (w : World) (o p q : Obj) : let W := ((w.alloc o).alloc p).alloc q; W.heap[w.heap.size]? = some o ∧ W.heap[w.heap.size + 1]? = some p ∧ W.heap[w.heap.size + 1 + 1]? = some q := by
  refine ⟨?_, ?_, ?_⟩
  · rw [heap_alloc_old _ _ (by simp; omega), heap_alloc_old _ _ (by simp), heap_alloc_new]
  · have := heap_alloc_new (w.alloc o) p
    rw [World.size_alloc] at this
    rw [heap_alloc_old _ _ (by simp), this]
  · have := heap_alloc_new ((w.alloc o).alloc p) q
    rwa [World.size_alloc, World.size_alloc] at this

/-- What a walk is told of a slice of integers that came in (the kit's own proof-skeleton writes it so): it is nil; or it leads to a row of 'cap' cells, the numbers 'zs', each fitting its kind. -/
def IsRow (k : IntKind) (w : World) (a : Option Addr) (len cap : Nat) (zs : List Int) : Prop :=
  (a = none ∧ len = 0 ∧ cap = 0 ∧ zs = []) ∨
  ∃ x, a = some x ∧ len ≤ cap ∧ cap ≤ maxLen ∧ zs.length = cap ∧ (∀ i, i < zs.length → w.cell? (x.add i) = some (.int k (zs.getD i 0))) ∧ ∀ n ∈ zs, (Lit.int k n).wf = true
theorem wf_u8 {n : Int} (h : (Lit.int .u8 n).wf = true) : 0 ≤ n ∧ n ≤ 255 := by
  have hmin : IntKind.u8.min = 0 := rfl
  have hmax : IntKind.u8.max = 255 := rfl
  simp only [Lit.wf, Bool.and_eq_true, decide_eq_true_eq] at h
  omega
theorem IsRow.bytes {w : World} {a : Option Addr} {len cap : Nat} {zs : List Int} (h : IsRow .u8 w a len cap zs) : ∃ l : List UInt8, len = l.length ∧ Row8 w a l ∧ len ≤ cap ∧ cap ≤ 9223372036854775807 ∧ (a = none → cap = 0) := by
  rcases h with ⟨rfl, rfl, rfl, rfl⟩ | ⟨x, rfl, hl, hm, hz, hc, hw⟩
  · exact ⟨[], rfl, .inl rfl, Nat.le_refl _, by omega, fun _ => rfl⟩
  · refine ⟨(zs.take len).map fun z => UInt8.ofNat z.toNat, by simp; omega, .inr ⟨x, rfl, fun i hi => ?_⟩, hl, by unfold maxLen at hm; omega, fun h => by simp at h⟩
    have hi' : i < zs.length := by simp at hi; omega
    rw [hc i hi']
    have hb := wf_u8 (hw _ (List.getElem_mem hi'))
    have e : zs.getD i 0 = zs[i] := by simp [List.getD_eq_getElem?_getD, List.getElem?_eq_getElem hi']
    rw [e]
    simp only [List.getElem_map, List.getElem_take, UInt8.toNat_ofNat']
    congr 2
    omega
theorem below_alloc1 (w : World) (o : Obj) : Below w.heap.size w (w.alloc o) := (Below.refl _ _).alloc (Nat.le_refl _) o

/-! Whole numbers that came in. -/
theorem in_u8 {n : Int} (h : (Lit.int .u8 n).wf = true) : ∃ x : UInt8, n = (x.toNat : Int) := by
  have := wf_u8 h
  exact ⟨UInt8.ofNat n.toNat, by simp only [UInt8.toNat_ofNat']; omega⟩
theorem in_u16 {n : Int} (h : (Lit.int .u16 n).wf = true) : ∃ x : Nat, n = (x : Int) ∧ x < 65536 := by
  have hmin : IntKind.u16.min = 0 := rfl
  have hmax : IntKind.u16.max = 65535 := rfl
  simp only [Lit.wf, Bool.and_eq_true, decide_eq_true_eq] at h
  exact ⟨n.toNat, by omega, by omega⟩
theorem in_u32 {n : Int} (h : (Lit.int .u32 n).wf = true) : ∃ x : Nat, n = (x : Int) ∧ x < 4294967296 := by
  have hmin : IntKind.u32.min = 0 := rfl
  have hmax : IntKind.u32.max = 4294967295 := rfl
  simp only [Lit.wf, Bool.and_eq_true, decide_eq_true_eq] at h
  exact ⟨n.toNat, by omega, by omega⟩
theorem in_u64 {n : Int} (h : (Lit.int .u64 n).wf = true) : ∃ x : Nat, n = (x : Int) ∧ x < 18446744073709551616 := by
  have hmin : IntKind.u64.min = 0 := rfl
  have hmax : IntKind.u64.max = 18446744073709551615 := rfl
  simp only [Lit.wf, Bool.and_eq_true, decide_eq_true_eq] at h
  exact ⟨n.toNat, by omega, by omega⟩
theorem in_i64 {n : Int} (h : (Lit.int .i64 n).wf = true) : -9223372036854775808 ≤ n ∧ n ≤ 9223372036854775807 := by
  have hmin : IntKind.i64.min = -9223372036854775808 := rfl
  have hmax : IntKind.i64.max = 9223372036854775807 := rfl
  simp only [Lit.wf, Bool.and_eq_true, decide_eq_true_eq] at h
  omega

/-! A slice of a slice of bytes. -/
theorem Row8.drop {w : World} {x : Addr} {l : List UInt8} (h : ∀ i : Nat, ∀ h : i < l.length, w.cell? (x.add i) = some (.int .u8 (l[i].toNat : Int))) (k : Nat) : Row8 w (some (x.add k)) (l.drop k) := by
  refine .inr ⟨_, rfl, fun i hi => ?_⟩
  simp only [List.length_drop] at hi
  have e : (x.add k).add i = x.add (k + i) := by
    by_cases h0 : k = 0
    · subst h0; simp [Addr.add]
    · by_cases h1 : i = 0
      · subst h1; simp [Addr.add]
      · simp [Addr.add, h0, h1, Nat.add_assoc]
  rw [e, h (k + i) (by omega), List.getElem_drop]
theorem Row8.take {w : World} {a : Option Addr} {l : List UInt8} (h : Row8 w a l) (k : Nat) : Row8 w a (l.take k) := by
  rcases h with rfl | ⟨x, rfl, hc⟩
  · exact .inl (by simp)
  · refine .inr ⟨x, rfl, fun i hi => ?_⟩
    simp only [List.length_take] at hi
    rw [hc i (by omega), List.getElem_take]
theorem sl_lo {P : Program} {t : TypeId} (ht : P.underlying t = some (.slice (P.elem t))) (hs : ∀ w, (sizeOf (P.elem t)).run P w = .ok 1 w) (a : Option Addr) (n c k : Nat) (hk : k ≤ n) :
    ∃ a2, (∀ w, (Instr.slice t (.slice a n c) (some (.int .i64 (k : Int))) none none).run P w = .ok (.slice a2 (n - k) (c - k)) w) ∧ ∀ w l, l.length = n → n ≤ c → Row8 w a l → Row8 w a2 (l.drop k) := by
  refine ⟨if c = k then a else a.map (·.add (k * 1)), fun w => ?_, fun w l hl hc hr => ?_⟩
  · rw [run_slice_l w t a n c ht .i64 k (by omega) (by omega), hs]
    rfl
  · rcases hr with rfl | ⟨x, rfl, h⟩
    · exact .inl (by simp)
    · by_cases e : c = k
      · refine .inl ?_
        rw [List.drop_eq_nil_iff]; omega
      · rw [if_neg e, Nat.mul_one]
        exact Row8.drop h k
theorem sl_hi {P : Program} {t : TypeId} (ht : P.underlying t = some (.slice (P.elem t))) (hs : ∀ w, (sizeOf (P.elem t)).run P w = .ok 1 w) (a : Option Addr) (n c k : Nat) (hk : k ≤ c) (w : World) :
    (Instr.slice t (.slice a n c) none (some (.int .i64 (k : Int))) none).run P w = .ok (.slice a k c) w := by
  rw [run_slice_h w t a n c ht .i64 k (by omega) (by omega), hs]
  have e : (a.map fun x : Addr => x.add (0 * 1)) = a := by cases a <;> simp [Addr.add]
  show Result.ok (sliced a 0 k c 1) w = _
  unfold sliced
  rw [e]
  simp

/-! Worlds, spelled out. -/
theorem heap_alloc (w : World) (o : Obj) : (w.alloc o).heap = w.heap.push o := rfl
theorem heap_drew (w : World) : w.drew.heap = w.heap := rfl
/-- 'x modulo m' as Go's texts write it where x may be below 0. -/
theorem mod_in (x m : Int) (h0 : 0 < m) (h1 : m ≤ 4000000000000000000) : ∃ k : Nat, (k : Int) < m ∧ (wrap64 (x.tmod m + m)).tmod m = (k : Int) := by
  have a1 := Int.tmod_lt_of_pos x h0
  have a2 := Int.lt_tmod_of_pos x h0
  have e : wrap64 (x.tmod m + m) = x.tmod m + m := by unfold wrap64; omega
  rw [e]
  have b1 := Int.tmod_lt_of_pos (x.tmod m + m) h0
  have b2 : 0 ≤ (x.tmod m + m).tmod m := Int.tmod_nonneg _ (by omega)
  exact ⟨((x.tmod m + m).tmod m).toNat, by omega, by omega⟩
theorem heap_at {w : World} {o : Obj} {g : Nat} (h : g = w.heap.size) : (w.alloc o).heap[g]? = some o := by subst h; exact heap_alloc_new _ _
theorem heap_past {w : World} {o p : Obj} {g : Nat} (h : w.heap[g]? = some p) : (w.alloc o).heap[g]? = some p := by
  rw [heap_alloc_old _ _ (Array.getElem?_eq_some_iff.1 h).1]; exact h
theorem heap_behind_drew {w : World} {g : Nat} {o : Option Obj} (h : w.heap[g]? = o) : w.drew.heap[g]? = o := h
theorem heap_behind_drewN {w : World} {n g : Nat} {o : Option Obj} (h : w.heap[g]? = o) : (w.drewN n).heap[g]? = o := h
theorem carry {w w1 : World} (hb : Below w.heap.size w w1) : ∀ (k : Nat) (o : Obj), w.heap[k]? = some o → w1.heap[k]? = some o := fun k _ h => (hb.block k (Array.getElem?_eq_some_iff.1 h).1).trans h
theorem below_setCells {B : Nat} {a w : World} (h : Below B a w) {b : Nat} (hb : B ≤ b) (o : Nat) (vs : List Value) : Below B a (w.setCells b o vs) := by
  induction vs generalizing w o with
  | nil => exact h
  | cons v r ih => exact ih (h.setCell (p := ⟨b, o, none⟩) hb v) (o + 1)
/-- 's[lo:hi]', its bounds as the goal spells them. -/
theorem sl_mid {P : Program} {t : TypeId} (ht : P.underlying t = some (.slice (P.elem t))) (hs : ∀ w, (sizeOf (P.elem t)).run P w = .ok 1 w) (a : Option Addr) (n c lo hi : Nat) (il ih : Int) (hil : il = (lo : Int)) (hih : ih = (hi : Int)) (h1 : lo ≤ hi) (h2 : hi ≤ c) :
    ∃ a2, (∀ w, (Instr.slice t (.slice a n c) (some (.int .i64 il)) (some (.int .i64 ih)) none).run P w = .ok (.slice a2 (hi - lo) (c - lo)) w) ∧ ∀ w l, l.length = n → hi ≤ n → Row8 w a l → Row8 w a2 ((l.drop lo).take (hi - lo)) := by
  subst hil; subst hih
  refine ⟨if c = lo then a else a.map (·.add (lo * 1)), fun w => ?_, fun w l hl hn hr => ?_⟩
  · rw [run_slice_lh w t a n c ht .i64 .i64 lo hi (by omega) (by omega) (by omega), hs]
    rfl
  · rcases hr with rfl | ⟨x, rfl, h⟩
    · exact .inl (by simp)
    · by_cases e : c = lo
      · refine .inl ?_
        have : hi - lo = 0 := by omega
        rw [this]; simp
      · rw [if_neg e, Nat.mul_one]
        exact (Row8.drop h lo).take _
theorem sl_from {P : Program} {t : TypeId} (ht : P.underlying t = some (.slice (P.elem t))) (hs : ∀ w, (sizeOf (P.elem t)).run P w = .ok 1 w) (a : Option Addr) (n c k : Nat) (il : Int) (hil : il = (k : Int)) (hk : k ≤ n) :
    ∃ a2, (∀ w, (Instr.slice t (.slice a n c) (some (.int .i64 il)) none none).run P w = .ok (.slice a2 (n - k) (c - k)) w) ∧ ∀ w l, l.length = n → n ≤ c → Row8 w a l → Row8 w a2 (l.drop k) := by
  subst hil
  exact sl_lo ht hs a n c k hk
end Go.Proofs.Ytocbogagfdbcmaa
