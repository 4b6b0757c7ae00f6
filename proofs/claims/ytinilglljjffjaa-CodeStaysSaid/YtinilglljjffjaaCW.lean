/- The walks of the program's writer: bytes put behind, numbers, bytes; what it has. -/
import Derived.Test.YtinilglljjffjaaCBits
import Derived.Maps.AppendAt
import Derived.RangeFuncBox
import Derived.WalkSpells
namespace Go.Proofs.Ytinilglljjffjaa.Cd
set_option linter.unusedVariables false
set_option linter.unusedSimpArgs false
open Go.RowKit
open Go.Proofs.Ytinilglljjffjaa.Num

/-- A writer's block g holds the slice v, which owns the bytes l. -/
structure Wst (B : Nat) (T : TypeId) (g : Nat) (v : Value) (l : List UInt8) (W : World) : Prop where
  box : Boxed W g T v
  own : Own8 W B 5 v l
/-- The writer in block g went from v to v': nothing else has turned. -/
structure Turn (g : Nat) (v v' : Value) (W W' : World) : Prop where
  os : W'.os = W.os
  tape : W'.tape = W.tape
  output : W'.output = W.output
  size : W.heap.size ≤ W'.heap.size
  keep : ∀ k, k < W.heap.size → k ≠ g → v.ownBlock ≠ some k → W'.heap[k]? = W.heap[k]?
  own : ∀ k, v'.ownBlock = some k → v.ownBlock = some k ∨ W.heap.size ≤ k
theorem Turn.trans {g : Nat} {v v' v'' : Value} {W W' W'' : World} (h : Turn g v v' W W') (k : Turn g v' v'' W' W'') : Turn g v v'' W W'' := by
  refine ⟨k.os.trans h.os, k.tape.trans h.tape, k.output.trans h.output, Nat.le_trans h.size k.size, fun i hi hg hv => ?_, fun i hi => ?_⟩
  · refine (k.keep i (Nat.lt_of_lt_of_le hi h.size) hg ?_).trans (h.keep i hi hg hv)
    intro hv'
    rcases h.own i hv' with h1 | h1
    · exact hv h1
    · omega
  · rcases k.own i hi with h1 | h1
    · exact h.own i h1
    · exact .inr (Nat.le_trans h.size h1)
theorem Turn.of_below {g : Nat} {v : Value} {W W' : World} (h : Below W.heap.size W W') : Turn g v v W W' := ⟨h.os, h.tape, h.output, h.size, fun i hi _ _ => h.block i hi, fun _ h => .inl h⟩
theorem Turn.below {B T g : Nat} {v v' : Value} {l : List UInt8} {W W' : World} (h : Turn g v v' W W') (hw : Wst B T g v l W) (hB : B ≤ g) : Below B W W' := by
  have hlt := hw.box.lt
  refine ⟨h.os, h.tape, h.output, h.size, fun i hi => h.keep i (by omega) (by omega) ?_⟩
  intro hv
  have := (hw.own.lt i hv).1
  omega
theorem Wst.below {B T g : Nat} {v : Value} {l : List UInt8} {W W' : World} (h : Wst B T g v l W) (hb : Below W.heap.size W W') : Wst B T g v l W' :=
  ⟨(hb.block g h.box.lt).trans h.box, h.own.below hb⟩
/-- Another writer's turn. -/
theorem Wst.other {B B2 T T2 g g2 : Nat} {v v2 v2' : Value} {l l2 : List UInt8} {W W' : World} (h : Wst B T g v l W) (h2 : Wst B2 T2 g2 v2 l2 W) (ht : Turn g2 v2 v2' W W') (hg : g ≠ g2) (hT : T ≠ 5) (hT2 : T2 ≠ 5)
    (hr : ∀ k, v.ownBlock = some k → v2.ownBlock ≠ some k) : Wst B T g v l W' := by
  have n1 := h.box.not_row hT h2.own
  have n2 := h2.box.not_row hT2 h.own
  refine ⟨(ht.keep g h.box.lt hg (fun e => n1 e.symm)).trans h.box, ?_⟩
  rcases h.own with ⟨h0, h1 | ⟨k, cap, cur, hv, hb, hh, hrest⟩⟩
  · exact ⟨h0, .inl h1⟩
  · have hown : v.ownBlock = some k := by rw [hv]; simp [Value.ownBlock]
    refine ⟨h0, .inr ⟨k, cap, cur, hv, hb, ?_, hrest⟩⟩
    refine (ht.keep k (Array.getElem?_eq_some_iff.1 hh).1 ?_ (hr k hown)).trans hh
    intro e
    rw [hown, e] at n2
    exact n2 rfl
section
variable {P : Program}
/-- 'append(s, x...)', s the call's own bytes, x any bytes; and where the new bytes lie. -/
theorem wpList_append8_at {w : World} {ops : Array Oper} {rest : List Oper} {o : Oper} {a : Act} {Q : Exit → Act → World → Prop} (hgd : o.guard = none) (s x : Operand) (t : TypeId)
    (ho : o.op = .call { callee := .builtin .append, args := #[s, x], argTypes := #[t, t] }) (base : Nat) (E : TypeId) (ht : P.underlying t = some (.slice E))
    (hi : (P.info? E).map (fun i => (i.zero, i.size, i.bytes)) = some (some (.int .u8 0), 1, 1))
    (v : Value) (l m : List UInt8) (A : Option Addr) (c : Nat) (hs : a.eval s = v) (hown : Own8 w base E v l) (hx : a.eval x = .slice A m.length c) (hr : Row8 w A m) (hc : A = none → c = 0)
    (hlen : l.length + m.length ≤ 140737488355328) (hbase : base ≤ w.heap.size)
    (h : ∀ v' w', Own8 w' base E v' (l ++ m) → w.grownBy w' v.ownBlock → (v'.ownBlock = v.ownBlock ∨ v'.ownBlock = some w.heap.size) → wpList P ops Q rest (a.put o.dst v') w') : wpList P ops Q (o :: rest) a w := by
  obtain ⟨i, hi0, hz0, hz1, hz2⟩ := info_parts hi
  cases A with
  | none =>
    have hm : m = [] := by
      rcases hr with h | ⟨x, hx, _⟩
      · exact h
      · simp at hx
    subst hm
    obtain rfl := hc rfl
    refine wpList_append_own_none hgd s x t ho base E i 1 ht hi0 v l.length (l.map v8) hs hown hx ?_
    exact h v w (by rw [List.append_nil]; exact hown) ⟨rfl, rfl, rfl, Nat.le_refl _, fun _ _ _ => rfl⟩ (.inl rfl)
  | some ad =>
    refine wpList_append_own_at w hgd s x t ho base E i (.int .u8 0) 1 1 ht hi0 hz0 hz1 hz2 rfl (by omega) v l.length (l.map v8) hs hown ad m.length c (m.map v8) hx (by simp) ?_ ?_ (by unfold maxLen; omega) (by omega) hbase ?_
    · intro j u hu
      rcases hr with rfl | ⟨x, hx, hcell⟩
      · simp at hu
      · obtain rfl := Option.some.inj hx
        have hj : j < m.length := by
          have := (List.getElem?_eq_some_iff.1 hu).1
          simpa using this
        rw [hcell j hj]
        simp [hj, v8] at hu
        rw [← hu]
    · intro u hu
      obtain ⟨x, _, rfl⟩ := List.mem_map.1 hu
      rfl
    · intro v' w' h1 h2 _ h4
      refine h v' w' ?_ h2 h4
      unfold Own8
      rw [List.length_append, List.map_append]
      exact h1
end
/-- The writer's block behind an append and the store of what it gave. -/
theorem Wst.stored {B T g : Nat} {v v' : Value} {l l' : List UInt8} {W W1 : World} (h : Wst B T g v l W) (hT : T ≠ 5) (hown : Own8 W1 B 5 v' l') (hg : W.grownBy W1 v.ownBlock) (hat : v'.ownBlock = v.ownBlock ∨ v'.ownBlock = some W.heap.size) :
    Boxed W1 g T v ∧ Wst B T g v' l' (W1.setCell ⟨g, 0, none⟩ v') ∧ Turn g v v' W (W1.setCell ⟨g, 0, none⟩ v') := by
  have hb1 : Boxed W1 g T v := h.box.kept hg (fun e => h.box.not_row hT h.own e)
  refine ⟨hb1, ⟨hb1.set v', hown.kept (grownBy_setCell' W1 g v') (.inr (fun e => hb1.not_row hT hown e.symm))⟩, ⟨?_, ?_, ?_, ?_, ?_, ?_⟩⟩
  · exact hg.os
  · exact hg.tape
  · exact hg.output
  · simpa using hg.size
  · intro k hk hkg hkv
    rw [Below.heap_setCell _ ⟨g, 0, none⟩ _ _ hkg]
    exact hg.block k hk (fun e => hkv e.symm)
  · intro k hk
    rcases hat with h1 | h1
    · exact .inl (by rw [← h1]; exact hk)
    · right
      rw [h1] at hk
      have := Option.some.inj hk
      omega
set_option maxRecDepth 100000 in
theorem put_calls (B g : Nat) (v : Value) (l : List UInt8) (A : Option Addr) (c : Nat) (m : List UInt8) (W : World) (hw : Wst B 27 g v l W) (hB : B ≤ g) (hr : Row8 W A m) (hA : A = none → c = 0) (hlen : l.length + m.length ≤ 140737488355328) :
    Calls Try.prog 53 #[.pointer (some ⟨g, 0, none⟩), .slice A m.length c] W fun e W' => e = .returned (.tuple #[]) ∧ ∃ v', Wst B 27 g v' (l ++ m) W' ∧ Turn g v v' W W' := by
  have hg := hw.box.cell
  have hlt := hw.box.lt
  have G := Lib.hid (And.intro hw (And.intro hr (And.intro hA hlen)))
  clear hw hr hA hlen
  go_enter Try.func53, Try.ntmps53
  go_wp2_with (at_builtin; refine wpList_append8_at rfl (Operand.tmp 10) (Operand.tmp 11) 25 rfl B 5 Try.underlying25 info8 v l m A c rfl G.out.1.own rfl G.out.2.1 G.out.2.2.1 G.out.2.2.2 (by omega) ?_; intro v' W1 hown hgrow hat; obtain ⟨hb1, hw2, ht2⟩ := G.out.1.stored (by decide) hown hgrow hat; obtain ⟨A', c', hv', _⟩ := hown.row; have hc1 := hb1.cell; have hf1 := hb1.frozen; have H := Lib.hid (And.intro hw2 ht2); clear hb1 hw2 ht2 hown hgrow hat; subst hv')
  go_end0
  have h1 := H.out
  rw [List.length_append] at h1
  exact ⟨rfl, _, h1.1, h1.2⟩
theorem short_len (n : Nat) : (short n).length ≤ 10 := dig_len 10 n
theorem num_calls (B g : Nat) (v : Value) (l : List UInt8) (n : Nat) (hn : n < 18446744073709551616) (W : World) (hw : Wst B 27 g v l W) (hB : B ≤ g) (hlen : l.length + 10 ≤ 140737488355328) :
    Calls Try.prog 26 #[.pointer (some ⟨g, 0, none⟩), .int .u64 (n : Int)] W fun e W' => e = .returned (.tuple #[]) ∧ ∃ v', Wst B 27 g v' (l ++ short n) W' ∧ Turn g v v' W W' := by
  have hs := short_calls none 0 [] n W (.inl rfl) (fun _ => rfl) (by simp) hn
  have hsl := short_len n
  have G := Lib.hid (And.intro hw (And.intro hlen hs))
  clear hw hlen hs
  go_enter Try.func26, Try.ntmps26
  go_wp2_with fail
  refine G.out.2.2.mono ?_
  rintro e W1 ⟨v1, rfl, ho, hb⟩
  rw [List.nil_append] at ho
  obtain ⟨A, c, rfl, hr, _, _, hA⟩ := ho.row
  have hp := put_calls B g v l A c (short n) W1 (G.out.1.below hb) hB hr hA (by have := G.out.2.1; omega)
  have HP := Lib.hid (And.intro hp hb)
  clear hp hb ho hr hA
  go_wp2_with fail
  refine HP.out.1.mono ?_
  rintro e W2 ⟨rfl, v2, hw2, ht2⟩
  have H := Lib.hid (And.intro hw2 ((Turn.of_below HP.out.2).trans ht2))
  clear hw2 ht2
  go_wp2_with fail
  go_end0
  exact ⟨rfl, _, H.out.1, H.out.2⟩
theorem byte_calls (B g : Nat) (v : Value) (l : List UInt8) (x : UInt8) (W : World) (hw : Wst B 27 g v l W) (hB : B ≤ g) (hlen : l.length + 1 ≤ 140737488355328) :
    Calls Try.prog 27 #[.pointer (some ⟨g, 0, none⟩), .int .u8 (x.toNat : Int)] W fun e W' => e = .returned (.tuple #[]) ∧ ∃ v', Wst B 27 g v' (l ++ [x]) W' ∧ Turn g v v' W W' := by
  have hb : Below W.heap.size W (W.alloc (.cells #[.int .u8 (x.toNat : Int)] 5)) := below_alloc1 _ _
  have hr : Row8 (W.alloc (.cells #[.int .u8 (x.toNat : Int)] 5)) (some ⟨W.heap.size, 0, none⟩) [x] := Row8.lit (heap_alloc_new _ _) rfl
  have hp := put_calls B g v l (some ⟨W.heap.size, 0, none⟩) 1 [x] _ (hw.below hb) hB hr (fun h => by cases h) (by simpa using hlen)
  have G := Lib.hid (And.intro hp hb)
  clear hp hb hr hw
  go_enter Try.func27, Try.ntmps27
  go_wp2_with fail
  refine G.out.1.mono ?_
  rintro e W2 ⟨rfl, v2, hw2, ht2⟩
  have H := Lib.hid (And.intro hw2 ((Turn.of_below G.out.2).trans ht2))
  clear hw2 ht2
  go_wp2_with fail
  go_end0
  exact ⟨rfl, _, H.out.1, H.out.2⟩
/-- What a writer has, as new bytes. -/
theorem bytes_calls (B g : Nat) (v : Value) (l : List UInt8) (W : World) (hw : Wst B 27 g v l W) (hlen : l.length ≤ 140737488355328) :
    Calls Try.prog 13 #[.pointer (some ⟨g, 0, none⟩)] W fun e W' => ∃ v', e = .returned v' ∧ Own8 W' W.heap.size 5 v' l ∧ Below W.heap.size W W' := by
  have hg := hw.box.cell
  obtain ⟨A, c, rfl, hr, _, _, hA⟩ := hw.own.row
  have G := Lib.hid (clone_calls A c l W hr hA hlen)
  clear hw hr hA
  go_enter Try.func13, Try.ntmps13
  go_wp2_with fail
  refine G.out.mono ?_
  rintro e W2 ⟨v2, rfl, ho, hb⟩
  have H := Lib.hid (And.intro ho hb)
  clear ho hb
  go_wp2_with fail
  go_ret
  exact ⟨_, rfl, H.out.1, H.out.2⟩
end Go.Proofs.Ytinilglljjffjaa.Cd
