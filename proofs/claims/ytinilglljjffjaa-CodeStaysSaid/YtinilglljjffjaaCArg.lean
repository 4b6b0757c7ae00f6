/- Fields that came in: a slice of them, and one by value, opened. -/
import Derived.Test.YtinilglljjffjaaCWrs
import Derived.Deep.Slices
import Derived.SizedLaws
import Derived.ProofKit
import Derived.OpenShut
namespace Go.Proofs.Ytinilglljjffjaa.Cd
set_option linter.unusedVariables false
set_option linter.unusedSimpArgs false
open Go.RowKit Go.ChangeShapes Go.WideShapes
open Go.Proofs.Ytinilglljjffjaa.Num

instance : Inhabited Fd := ⟨⟨0, 0, [], 0⟩⟩
section
variable {H : Type} {enc : TypeId × Value → H} {P : Program} {w : World} {base : Nat} {held : Bool} {spare : Nat → Bool}
theorem mem_weightsAll {e : TypeId} {d : DataW H} {l : List (DataW H)} (h : d ∈ l) : ∀ n ∈ d.weights P e, n ∈ DataW.weightsAll P e l := by
  induction l with
  | nil => cases h
  | cons x xs ih =>
    intro n hn
    simp only [DataW.weightsAll, List.mem_append]
    rcases List.mem_cons.1 h with rfl | h
    · exact .inl hn
    · exact .inr (ih h n hn)
theorem sized_at {ts : List TypeId} {ds : List (DataW H)} (h : (DataW.weightsEach P ts ds).all (· ≤ reachBytes) = true) {j : Nat} {t : TypeId} {d : DataW H} (ht : ts[j]? = some t) (hd : ds[j]? = some d) : ∀ m ∈ d.weights P t, m ≤ reachBytes := fun m hm => by
  have := List.all_eq_true.1 h _ (DataW.weights_mem_each ht hd m hm)
  simpa using this
/-- One field, out of its four cells. -/
theorem open_field {t : TypeId} {f0 f1 f2 f3 : Field} {n : Nat} {cs : List Value} {x : DataW H × List MemPlace} (ht : P.underlying t = some (.struct #[f0, f1, f2, f3])) (ct : P.cellsOf t = 4)
    (o0 : f0.offset = 0) (o1 : f1.offset = 1) (o2 : f2.offset = 2) (o3 : f3.offset = 3) (c0 : P.cellsOf f0.type = 1) (c1 : P.cellsOf f1.type = 1) (c2 : P.cellsOf f2.type = 1) (c3 : P.cellsOf f3.type = 1)
    (t0 : P.underlying f0.type = some (.int .u8)) (t1 : P.underlying f1.type = some (.int .u64)) (t2 : P.underlying f2.type = some .string) (t3 : P.underlying f3.type = some (.int .i64))
    (h : DataW.trod enc P w base spare held n t cs = some x) (hsz : ∀ m ∈ x.1.weights P t, m ≤ reachBytes) :
    ∃ f : Fd, cs = f.cells.toList ∧ f.Ok ∧ f.s.length ≤ 140737488351232 := by
  obtain ⟨xs, m, rfl, rfl, hlen, hxs, hf⟩ := DataW.trod_struct ht h
  rw [ct] at hlen
  match xs, hxs, cs, hlen with
  | [y0, y1, y2, y3], _, [u0, u1, u2, u3], _ =>
    have g0 := hf 0 f0 rfl
    have g1 := hf 1 f1 rfl
    have g2 := hf 2 f2 rfl
    have g3 := hf 3 f3 rfl
    simp [o0, o1, o2, o3, c0, c1, c2, c3] at g0 g1 g2 g3
    obtain ⟨n0, e0, d0, w0⟩ := DataW.trod_int t0 g0
    obtain ⟨n1, e1, d1, w1⟩ := DataW.trod_int t1 g1
    obtain ⟨s2, e2, d2, w2⟩ := DataW.trod_string t2 g2
    obtain ⟨n3, e3, d3, w3⟩ := DataW.trod_int t3 g3
    obtain ⟨k0, rfl⟩ := in_u8 w0
    obtain ⟨k1, rfl, hk1⟩ := in_u64 w1
    obtain ⟨m0, m1⟩ := in_i64 w3
    have hs : s2.data.toList.length ≤ reachBytes := by
      refine hsz _ ?_
      simp only [DataW.weights, ht, List.map_cons, List.map_nil, d2]
      exact DataW.weights_mem_each (j := 2) (t := f2.type) (d := .lit (.string s2.data.toList)) rfl rfl _ (by simp [DataW.weights])
    have hs2 : s2.data.toList.length ≤ 140737488351232 := hs
    have htx : txt s2.data.toList = s2 := by
      cases s2 with
      | mk d => simp [txt]
    refine ⟨⟨k0.toNat, k1, s2.data.toList, n3⟩, ?_, ⟨k0.toNat_lt, hk1, m0, m1, Nat.le_trans hs2 (by decide)⟩, hs2⟩
    injection e0 with e0
    injection e1 with e1
    injection e2 with e2
    injection e3 with e3
    rw [e0, e1, e2, e3]
    show _ = [_, _, _, _]
    rw [htx]
theorem open_fields {t e : TypeId} {f0 f1 f2 f3 : Field} {n : Nat} {a : Option Addr} {len cap : Nat} {x : DataW H × List MemPlace} (hu : P.underlying t = some (.slice e)) (ht : P.underlying e = some (.struct #[f0, f1, f2, f3])) (ct : P.cellsOf e = 4)
    (o0 : f0.offset = 0) (o1 : f1.offset = 1) (o2 : f2.offset = 2) (o3 : f3.offset = 3) (c0 : P.cellsOf f0.type = 1) (c1 : P.cellsOf f1.type = 1) (c2 : P.cellsOf f2.type = 1) (c3 : P.cellsOf f3.type = 1)
    (t0 : P.underlying f0.type = some (.int .u8)) (t1 : P.underlying f1.type = some (.int .u64)) (t2 : P.underlying f2.type = some .string) (t3 : P.underlying f3.type = some (.int .i64))
    (h : DataW.trod enc P w base (fun _ => true) held n t [.slice a len cap] = some x) (hsz : ∀ m ∈ x.1.weights P t, m ≤ reachBytes) :
    ∃ fs : List Fd, len = fs.length ∧ FRow w a fs ∧ allOk fs ∧ len ≤ cap ∧ cap ≤ 9223372036854775807 ∧ (a = none → cap = 0) := by
  rcases Deep.open_slice hu h with ⟨hcs, _⟩ | ⟨y, l, c, m, k, D, Pl, hcs, _, hl, hm, hmm, rfl, hx⟩
  · simp at hcs
    obtain ⟨rfl, rfl, rfl⟩ := hcs
    exact ⟨[], rfl, .inl rfl, fun f hf => (by simp at hf), Nat.le_refl _, by omega, fun _ => rfl⟩
  · simp at hcs
    obtain ⟨rfl, rfl, rfl⟩ := hcs
    simp only [if_true] at hmm
    subst hmm
    rw [ct] at hx
    have each : ∀ i, i < len → ∃ f : Fd, (f.Ok ∧ f.s.length ≤ 140737488351232) ∧ w.cell? (y.add (i * 4)) = some (.int .u8 (f.k : Int)) ∧ w.cell? ⟨(y.add (i * 4)).block, (y.add (i * 4)).off + 1, none⟩ = some (.int .u64 (f.n : Int)) ∧ w.cell? ⟨(y.add (i * 4)).block, (y.add (i * 4)).off + 2, none⟩ = some (.string (txt f.s)) ∧ w.cell? ⟨(y.add (i * 4)).block, (y.add (i * 4)).off + 3, none⟩ = some (.int .i64 f.most) := by
      intro i hi
      obtain ⟨cs', h1, h2⟩ := hx i (by omega)
      obtain ⟨f, rfl, hok⟩ := open_field ht ct o0 o1 o2 o3 c0 c1 c2 c3 t0 t1 t2 t3 h2 (fun q hq => by
        refine hsz q ?_
        simp only [DataW.weights, hu, List.mem_cons, List.mem_append]
        exact .inr (.inl (mem_weightsAll (List.mem_map.2 ⟨i, by simpa using hi, rfl⟩) q hq)))
      obtain ⟨_, _, hcell⟩ := World.cells?_some h1
      have a0 := hcell 0 (by omega)
      have a1 := hcell 1 (by omega)
      have a2 := hcell 2 (by omega)
      have a3 := hcell 3 (by omega)
      simp [Addr.add, Fd.cells] at a0 a1 a2 a3
      refine ⟨f, hok, ?_, ?_, ?_, ?_⟩
      all_goals simp only [Addr.add]
      all_goals first | exact a0 | exact a1 | exact a2 | exact a3
    obtain ⟨F, hF⟩ := Deep.choose_lt (α := Fd) each
    refine ⟨(List.range len).map F, by simp, .inr ⟨y, rfl, fun i hi => ?_⟩, fun f hf => ?_, hl, by unfold maxLen at hm; omega, fun h => by cases h⟩
    · have hi2 : i < len := by simpa using hi
      simp only [List.getElem_map, List.getElem_range]
      exact (hF i hi2).2
    · obtain ⟨i, hi, rfl⟩ := List.mem_map.1 hf
      exact (hF i (by simpa using hi)).1
/-- A field that came in by value. -/
theorem fd_open {r : Reach} {b0 : Nat} {v : Value} {d : DataW H} {p : List MemPlace} {t : TypeId} {f0 f1 f2 f3 : Field} (ht : P.underlying t = some (.struct #[f0, f1, f2, f3])) (ct : P.cellsOf t = 4)
    (o0 : f0.offset = 0) (o1 : f1.offset = 1) (o2 : f2.offset = 2) (o3 : f3.offset = 3) (c0 : P.cellsOf f0.type = 1) (c1 : P.cellsOf f1.type = 1) (c2 : P.cellsOf f2.type = 1) (c3 : P.cellsOf f3.type = 1)
    (t0 : P.underlying f0.type = some (.int .u8)) (t1 : P.underlying f1.type = some (.int .u64)) (t2 : P.underlying f2.type = some .string) (t3 : P.underlying f3.type = some (.int .i64))
    (hv : Value.okWide P w r b0 t v) (h : DataW.Trod enc P w base spare held t v d p) (hsz : ∀ m ∈ d.weights P t, m ≤ reachBytes) :
    ∃ f : Fd, v = .agg f.cells ∧ f.Ok ∧ f.s.length ≤ 140737488351232 := by
  obtain ⟨cs, rfl, hcs⟩ := okWide_struct ht hv
  obtain ⟨fuel, hf⟩ := h
  obtain ⟨f, hf1, hok⟩ := open_field ht ct o0 o1 o2 o3 c0 c1 c2 c3 t0 t1 t2 t3 hf hsz
  refine ⟨f, ?_, hok⟩
  simp only [Value.cells] at hf1
  rw [Array.toList_inj.1 hf1]
end
end Go.Proofs.Ytinilglljjffjaa.Cd
