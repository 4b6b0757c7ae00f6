/- append of a string's bytes onto the call's own bytes, and where the new row lies. -/
import Derived.Test.YtinilglljjffjaaCRef
import Derived.Lib.AppendStr
namespace Go.Proofs.Ytinilglljjffjaa.Cd
set_option linter.unusedVariables false
set_option linter.unusedSimpArgs false
open Go.RowKit
open Go.Proofs.Ytinilglljjffjaa.Num
section
variable {P : Program}
theorem run_append_string_at (w : World) (base : Nat) (t u ty e : TypeId) (i : TypeInfo) (ht : P.underlying t = some (.slice e)) (hu : P.underlying u = some .string) (hi : P.info? e = some i) (hz : i.zero = some (.int .u8 0))
    (hsize : i.size = 1) (hby : i.bytes = 1) (v : Value) (n : Nat) (xs : List Value) (hown : w.ownsRow base e 1 v n xs) (s : ByteArray) (hbytes : n + s.size ≤ 140737488355328) (hbase : base ≤ w.heap.size) :
    ∃ v' w', (Builtin.append_ #[t, u] ty #[v, .string s]).run P w = .ok v' w' ∧ w'.ownsRow base e 1 v' (n + s.size) (xs ++ Lib.strCells s) ∧ w.grownBy w' v.ownBlock ∧ (v'.ownBlock = v.ownBlock ∨ v'.ownBlock = some w.heap.size) := by
  obtain ⟨v', w', hr, h2, h3, h4⟩ := Lib.run_append_own_string (P := P) (w := w) base t u ty e i ht hu hi hz hsize hby v n xs hown s (by unfold maxLen; omega) hbytes hbase
  refine ⟨v', w', hr, h2, h3, ?_⟩
  have hxl : xs.length = n := by simpa using hown.1
  rcases hown.2 with ⟨rfl, rfl⟩ | ⟨g, cap, cur, rfl, hbg, hg, hnc, hcm, hcs, htake⟩
  · by_cases hm : s.size = 0
    · left; rw [h4.2 ⟨rfl, hm⟩]
    · right
      have hr' := run_append_nil_string (P := P) w t u ty e i (.int .u8 0) ht hu hi hz s (by omega) (by omega) (by rw [hby]; omega)
      rw [hr'] at hr
      injection hr with hv _
      rw [← hv]; rfl
  · by_cases hroom : n + s.size ≤ cap
    · left
      have hcs' : cur.size = cap := by simpa using hcs
      have hr' := Lib.run_append_room_string (P := P) (w := w) t u ty e i ht hu hi hsize g n cap cur hg s hroom (by omega)
      rw [hr'] at hr
      injection hr with hv _
      rw [← hv]; rfl
    · right
      have holds : ∀ j u, xs[j]? = some u → w.cell? ((⟨g, 0, none⟩ : Addr).add j) = some u := hown.cells (g := g) rfl
      have hr' := Lib.run_append_grow_string (P := P) (w := w) t u ty e i (.int .u8 0) ht hu hi hz ⟨g, 0, none⟩ n cap xs (by rw [hsize]; simpa using hxl) holds s (by omega) (by omega) (by rw [hby]; exact growslice_fits (by omega) (by omega))
      rw [hr'] at hr
      injection hr with hv _
      rw [← hv]; rfl
theorem wpList_append_string8 {w : World} {ops : Array Oper} {rest : List Oper} {o : Oper} {a : Act} {Q : Exit → Act → World → Prop} (hgd : o.guard = none) (sl x : Operand) (t u : TypeId)
    (ho : o.op = .call { callee := .builtin .append, args := #[sl, x], argTypes := #[t, u] }) (base : Nat) (E : TypeId) (ht : P.underlying t = some (.slice E)) (hu : P.underlying u = some .string)
    (hi : (P.info? E).map (fun i => (i.zero, i.size, i.bytes)) = some (some (.int .u8 0), 1, 1))
    (v : Value) (l m : List UInt8) (hs : a.eval sl = v) (hown : Own8 w base E v l) (hx : a.eval x = .string (txt m)) (hlen : l.length + m.length ≤ 140737488355328) (hbase : base ≤ w.heap.size)
    (h : ∀ v' w', Own8 w' base E v' (l ++ m) → w.grownBy w' v.ownBlock → (v'.ownBlock = v.ownBlock ∨ v'.ownBlock = some w.heap.size) → wpList P ops Q rest (a.put o.dst v') w') : wpList P ops Q (o :: rest) a w := by
  obtain ⟨i, hi0, hz0, hz1, hz2⟩ := info_parts hi
  refine wpList_plain hgd fun K hK => ?_
  obtain ⟨v', w', hr, h2, h3, h4⟩ := run_append_string_at (P := P) w base t u o.type E i ht hu hi0 hz0 hz1 hz2 v l.length (l.map v8) hown (txt m) hlen hbase
  unfold Oper.wp execOp
  simp only [ho, resolve, invoke, builtin, Sem.run_bind, Sem.run_pure, Result.andThen_ok, List.map_toArray, List.map_cons, List.map_nil, hs, hx, hr]
  refine hK _ _ (h v' w' ?_ h3 h4)
  unfold Own8
  rw [List.length_append, List.map_append]
  exact h2
end
set_option maxRecDepth 100000 in
theorem reftext_calls (B g : Nat) (v : Value) (l m : List UInt8) (W : World) (hw : Wst B 29 g v l W) (hB : B ≤ g) (hlen : l.length + m.length + 2000 ≤ 140737488355328) :
    Calls Try.prog 34 #[.pointer (some ⟨g, 0, none⟩), .string (txt m)] W fun e W' => e = .returned (.tuple #[]) ∧ ∃ v', Wst B 29 g v' (l ++ textF m) W' ∧ Turn g v v' W W' := by
  have hn := refnum_calls B g v l m.length (by omega) W hw hB (by omega)
  have hsz := txt_size m
  have hsl := short_len m.length
  have hwr : IntKind.u64.wrap (m.length : Int) = (m.length : Int) := wraps_u64 _ (by omega) (by omega)
  have G := Lib.hid (And.intro hn hlen)
  clear hn hlen hw
  obtain ⟨n, hnn⟩ : ∃ n, n = m.length := ⟨_, rfl⟩
  have HN := Lib.hid hnn
  rw [← hnn] at hsz hwr G hsl
  clear hnn
  go_enter Try.func34, Try.ntmps34
  go_wp2_with fail
  refine G.out.1.mono ?_
  rintro e W1 ⟨rfl, v1, hw1, ht1⟩
  have hg := hw1.box.cell
  have hf := hw1.box.frozen
  have hlt := hw1.box.lt
  have H1 := Lib.hid (And.intro hw1 ht1)
  have hll : (l ++ short n).length + m.length ≤ 140737488355328 := by rw [List.length_append, ← HN.out]; have := G.out.2; omega
  obtain ⟨A1, c1, hv1, _⟩ := hw1.own.row
  have HL := Lib.hid hll
  rw [List.length_append] at hv1
  clear hw1 ht1 hll
  subst hv1
  go_wp2_with (at_builtin; refine wpList_append_string8 rfl (Operand.tmp 13) (Operand.tmp 14) 25 9 rfl B 5 Try.underlying25 Try.underlying9 info8 _ (l ++ short n) m rfl H1.out.1.own rfl HL.out (by omega) ?_; intro v' W2 hown hgrow hat; obtain ⟨hb1, hw2, ht2⟩ := H1.out.1.stored (by decide) hown hgrow hat; obtain ⟨A', c', hv', _⟩ := hown.row; have hc1 := hb1.cell; have hf1 := hb1.frozen; have H := Lib.hid (And.intro hw2 (H1.out.2.trans ht2)); clear hb1 hw2 ht2 hown hgrow hat; subst hv')
  go_end0
  have h1 := H.out
  have e1 : (l ++ short n ++ m).length = l.length + ((short n).length + m.length) := by rw [List.length_append, List.length_append, Nat.add_assoc]
  have e2 : l ++ short n ++ m = l ++ textF m := by unfold textF; rw [HN.out, List.append_assoc]
  rw [e1, e2] at h1
  exact ⟨rfl, _, h1.1, h1.2⟩
end Go.Proofs.Ytinilglljjffjaa.Cd
