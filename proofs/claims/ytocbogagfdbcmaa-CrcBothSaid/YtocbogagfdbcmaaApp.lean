/- Bytes in memory that the call itself made: append to them, read them, write one. No program is in sight. -/
import Derived.Test.YtocbogagfdbcmaaMem
import Derived.OwnWalk
import Derived.Laws.AppendOwn
import Derived.Laws.AppendOwnNone
import Derived.Laws.CopyOwn
namespace Go.Proofs.Ytocbogagfdbcmaa
set_option linter.unusedVariables false
set_option linter.unusedSimpArgs false
open Go.RowKit

/-- A byte as a cell. -/
def v8 (x : UInt8) : Value := .int .u8 (x.toNat : Int)
/-- v is nil or leads to a row of the call's own whose first bytes are l. -/
def Own8 (w : World) (base : Nat) (E : TypeId) (v : Value) (l : List UInt8) : Prop := w.ownsRow base E 1 v l.length (l.map v8)
theorem Own8.nil (w : World) (base : Nat) (E : TypeId) : Own8 w base E (.slice none 0 0) [] := World.ownsRow_nil w base E 1
theorem Own8.row {w : World} {base : Nat} {E : TypeId} {v : Value} {l : List UInt8} (h : Own8 w base E v l) : ∃ A c, v = .slice A l.length c ∧ Row8 w A l ∧ l.length ≤ c ∧ c ≤ 9223372036854775807 ∧ (A = none → c = 0) := by
  have hc := fun g (hg : v.ownBlock = some g) => World.ownsRow.cells h hg
  rcases h with ⟨_, ⟨rfl, hn⟩ | ⟨g, cap, cur, rfl, _, _, hle, hmax, _⟩⟩
  · have hl : l = [] := List.eq_nil_of_length_eq_zero hn
    subst hl
    exact ⟨none, 0, rfl, .inl rfl, Nat.le_refl _, by omega, fun _ => rfl⟩
  · refine ⟨_, cap, rfl, .inr ⟨_, rfl, fun i hi => ?_⟩, hle, by unfold maxLen at hmax; omega, fun h => by simp at h⟩
    exact hc g rfl i _ (by simp [hi, v8])
theorem Own8.kept {w w' : World} {base : Nat} {E : TypeId} {v : Value} {l : List UInt8} (h : Own8 w base E v l) {row : Option Nat} (hg : w.grownBy w' row) (hne : v.ownBlock = none ∨ v.ownBlock ≠ row) : Own8 w' base E v l := World.ownsRow.kept h hg hne
theorem Own8.below {w w' : World} {base : Nat} {E : TypeId} {v : Value} {l : List UInt8} (h : Own8 w base E v l) (hb : Below w.heap.size w w') : Own8 w' base E v l :=
  h.kept (row := none) ⟨hb.os, hb.tape, hb.output, hb.size, fun i hi _ => hb.block i hi⟩ (by cases v.ownBlock <;> simp)
theorem below_of_grown {w w1 : World} (h : w.grownBy w1 none) : Below w.heap.size w w1 := ⟨h.os, h.tape, h.output, h.size, fun i hi => h.block i hi (by simp)⟩
theorem Own8.lt {w : World} {base : Nat} {E : TypeId} {v : Value} {l : List UInt8} (h : Own8 w base E v l) : ∀ k, v.ownBlock = some k → base ≤ k ∧ k < w.heap.size := World.ownsRow.lt h
theorem Own8.mono {w : World} {base base' : Nat} {E : TypeId} {v : Value} {l : List UInt8} (h : Own8 w base E v l) (hb : base' ≤ base) : Own8 w base' E v l := by
  rcases h with ⟨h0, h | ⟨g, cap, cur, h1, h2, h3⟩⟩
  · exact ⟨h0, .inl h⟩
  · exact ⟨h0, .inr ⟨g, cap, cur, h1, Nat.le_trans hb h2, h3⟩⟩
theorem grown_below {B base : Nat} {w w1 w2 : World} {E : TypeId} {v : Value} {l : List UInt8} (hb : Below B w w1) (hB : B ≤ w1.heap.size) (hv : Own8 w1 base E v l) (hbase : B ≤ base) (hg : w1.grownBy w2 v.ownBlock) : Below B w w2 :=
  hb.grown hg hB (fun k hk => Nat.le_trans hbase (hv.lt k hk).1)

section
variable {P : Program}
/-- 'append(s, x...)', s the call's own bytes, x any bytes. -/
theorem wpList_append8 {w : World} {ops : Array Oper} {rest : List Oper} {o : Oper} {a : Act} {Q : Exit → Act → World → Prop} (hgd : o.guard = none) (s x : Operand) (t : TypeId)
    (ho : o.op = .call { callee := .builtin .append, args := #[s, x], argTypes := #[t, t] }) (base : Nat) (E : TypeId) (ht : P.underlying t = some (.slice E))
    (hi : (P.info? E).map (fun i => (i.zero, i.size, i.bytes)) = some (some (.int .u8 0), 1, 1))
    (v : Value) (l m : List UInt8) (A : Option Addr) (c : Nat) (hs : a.eval s = v) (hown : Own8 w base E v l) (hx : a.eval x = .slice A m.length c) (hr : Row8 w A m) (hc : A = none → c = 0)
    (hlen : l.length + m.length ≤ 140737488355328) (hbase : base ≤ w.heap.size)
    (h : ∀ v' w', Own8 w' base E v' (l ++ m) → w.grownBy w' v.ownBlock → wpList P ops Q rest (a.put o.dst v') w') : wpList P ops Q (o :: rest) a w := by
  obtain ⟨i, hi0, hz0, hz1, hz2⟩ := info_parts hi
  cases A with
  | none =>
    have hm : m = [] := by
      rcases hr with h | ⟨x, hx, _⟩
      · exact h
      · simp at hx
    subst hm
    obtain rfl := hc rfl
    refine wpList_append_own_none hgd s x t ho base E i 1 ht hi0 v l.length (l.map v8) hs hown hx ?_
    exact h v w (by rw [List.append_nil]; exact hown) ⟨rfl, rfl, rfl, Nat.le_refl _, fun _ _ _ => rfl⟩
  | some ad =>
    refine wpList_append_own w hgd s x t ho base E i (.int .u8 0) 1 1 ht hi0 hz0 hz1 hz2 rfl (by omega) v l.length (l.map v8) hs hown ad m.length c (m.map v8) hx (by simp) ?_ ?_ (by unfold maxLen; omega) (by omega) hbase ?_
    · intro j u hu
      rcases hr with rfl | ⟨x, hx, hcell⟩
      · simp at hu
      · obtain rfl := Option.some.inj hx
        have hj : j < m.length := by
          have := (List.getElem?_eq_some_iff.1 hu).1
          simpa using this
        rw [hcell j hj]
        simp [hj, v8] at hu
        rw [← hu]
    · intro u hu
      obtain ⟨x, _, rfl⟩ := List.mem_map.1 hu
      rfl
    · intro v' w' h1 h2 _
      refine h v' w' ?_ h2
      unfold Own8
      rw [List.length_append, List.map_append]
      exact h1
end
/-- A byte of the call's own may be written. -/
theorem Own8.at_ {w : World} {base : Nat} {E : TypeId} {v : Value} {l : List UInt8} (h : Own8 w base E v l) {i : Nat} (hi : i < l.length) : ∃ g c, v = .slice (some ⟨g, 0, none⟩) l.length c ∧ base ≤ g ∧ w.cell? ⟨g, i, none⟩ = some (.int .u8 (l[i].toNat : Int)) ∧ w.frozen? ⟨g, i, none⟩ = false ∧
    ∀ x : UInt8, Own8 (w.setCell ⟨g, i, none⟩ (.int .u8 (x.toNat : Int))) base E v (l.set i x) := by
  have hc := fun g (hg : v.ownBlock = some g) => World.ownsRow.cells h hg
  have hle0 := h.1
  rcases h with ⟨_, ⟨rfl, hn⟩ | ⟨g, cap, cur, rfl, hb, hh, hle, hmax, hsz, hcur⟩⟩
  · omega
  · have hcell := hc g rfl i _ (show (l.map v8)[i]? = some (v8 l[i]) by simp [hi])
    have e0 : (⟨g, 0, none⟩ : Addr).add i = ⟨g, i, none⟩ := by unfold Addr.add; split <;> simp_all
    rw [e0] at hcell
    refine ⟨g, cap, rfl, hb, hcell, by simp [World.frozen?, hh], fun x => ?_⟩
    refine ⟨by simp, .inr ⟨g, cap, cur.setIfInBounds i (.int .u8 (x.toNat : Int)), by simp, hb, ?_, by simpa using hle, hmax, by simpa using hsz, ?_⟩⟩
    · simp [World.setCell, Array.getElem?_modify, hh]
    · rw [Array.toList_setIfInBounds, List.take_set, List.length_set, hcur, List.map_set]
      rfl
/-- Bytes in the midst of a block. -/
theorem Row8.mid {w : World} {b o : Nat} {T : TypeId} {f : Nat × Nat} (p l q : List UInt8) (h : w.heap[b]? = some (.cells ((p ++ (l ++ q)).map v8).toArray T f)) (ho : o = p.length) : Row8 w (some ⟨b, o, none⟩) l := by
  subst ho
  refine .inr ⟨_, rfl, fun i hi => ?_⟩
  have e : (⟨b, p.length, none⟩ : Addr).add i = ⟨b, p.length + i, none⟩ := by unfold Addr.add; split <;> simp_all
  rw [e]
  simp only [World.cell?, h]
  simp [List.getElem?_append_right, List.getElem?_append_left (show i < (l.map v8).length by simpa using hi), List.getElem?_eq_getElem hi, v8]
/-- What a copy leaves of bytes. -/
theorem splice_v8 (Z X : List UInt8) (o : Nat) : splice (Z.map v8) o (X.map v8) = (splice Z o X).map v8 := by
  unfold splice; simp [List.map_append, List.map_take, List.map_drop]
end Go.Proofs.Ytocbogagfdbcmaa
