/- A region that draws its order, walked by a relation: each operation once, whatever came before it. No program is in sight. -/
import Derived.Orders
import Derived.RegionTactic
import Derived.Test.YtocbogagfdbcmaaMem
namespace Go.Proofs.Ytocbogagfdbcmaa.Rel
open Go.RowKit
set_option linter.unusedVariables false
set_option linter.unusedSimpArgs false

theorem count_set : ∀ (L : List Bool) (i : Nat), L[i]? = some false → (L.set i true).countP (fun b => !b) + 1 = L.countP (fun b => !b)
  | [], i, h => by simp at h
  | b :: L, 0, h => by
    simp only [List.getElem?_cons_zero, Option.some.injEq] at h
    subst h
    simp
  | b :: L, i + 1, h => by
    simp only [List.getElem?_cons_succ] at h
    have ih := count_set L i h
    simp only [List.set_cons_succ, List.countP_cons]
    omega
theorem count_zero : ∀ (L : List Bool), L.countP (fun b => !b) = 0 → ∀ i, i < L.length → L[i]? = some true
  | [], _, i, h => by simp at h
  | b :: L, h, i, hi => by
    simp only [List.countP_cons] at h
    cases b with
    | false => simp at h
    | true =>
      cases i with
      | zero => rfl
      | succ i =>
        rw [List.getElem?_cons_succ]
        exact count_zero L (by simpa using h) i (by simpa using hi)
theorem getD_bool {L : Array Bool} {i : Nat} {d b : Bool} (h : L.toList[i]? = some b) : L.getD i d = b := by
  rw [Array.getD_eq_getD_getElem?, ← Array.getElem?_toList, h]
  rfl
section
variable {P : Program} {md : Region.Mode} {ops : Array Oper} {Q : Exit → Act → World → Prop}
/-- Every operation waits for earlier ones alone. -/
def early (ops : Array Oper) : Bool := (List.range ops.size).all fun i => ((ops[i]?).map fun o => o.after.all fun e => decide (e.on < i)).getD true
theorem all_listed (he : early ops = true) (listed : Array Bool) (hs : listed.size = ops.size) (hr : Region.ready md ops listed = []) : ∀ i, i < ops.size → listed.getD i false = true := by
  intro i
  induction i using Nat.strongRecOn with
  | ind i ih =>
    intro hi
    cases hb : listed.getD i true with
    | true =>
      have hi2 : i < listed.size := by omega
      simp only [Array.getD_eq_getD_getElem?, Array.getElem?_eq_getElem hi2] at hb ⊢
      exact hb
    | false =>
      exfalso
      have hmem : i ∈ Region.ready md ops listed := by
        rw [mem_ready]
        refine ⟨hb, ops[i], Array.getElem?_eq_getElem hi, fun e hm _ => ?_⟩
        have h1 := List.all_eq_true.1 he i (List.mem_range.2 hi)
        rw [Array.getElem?_eq_getElem hi] at h1
        simp only [Option.map_some, Option.getD_some, Array.all_eq_true_iff_forall_mem] at h1
        have h2 := of_decide_eq_true (h1 e hm)
        exact ih e.on h2 (by omega)
      rw [hr] at hmem
      cases hmem
theorem wpAny_rel (I : Array Bool → Act → World → Prop) (he : early ops = true)
    (step : ∀ listed a w, I listed a w → ∀ i o, ops[i]? = some o → (∀ e ∈ o.after, Region.binds md e = true → listed.getD e.on false = true) → wpOp P ops Q i (fun a' w' => I (listed.setIfInBounds i true) a' w') a w)
    (fin : ∀ listed a w, I listed a w → (∀ i, i < ops.size → listed.getD i false = true) → Q .normal a w) :
    ∀ (fuel : Nat) (listed : Array Bool) (a : Act) (w : World), listed.size = ops.size → listed.toList.countP (fun b => !b) = fuel → I listed a w → wpAny P md ops Q fuel listed a w := by
  intro fuel
  induction fuel with
  | zero =>
    intro listed a w hs hc hI
    have hall : ∀ i, i < ops.size → listed.getD i false = true := fun i hi => getD_bool (count_zero _ hc i (by simpa using (by omega : i < listed.size)))
    refine ⟨?_, fin listed a w hI hall⟩
    rw [List.eq_nil_iff_forall_not_mem]
    intro i hi
    obtain ⟨h1, o, ho, _⟩ := mem_ready.1 hi
    have hlt : i < ops.size := (Array.getElem?_eq_some_iff.1 ho).1
    have h2 := getD_bool (d := true) (count_zero _ hc i (by simpa using (by omega : i < listed.size)))
    rw [h2] at h1
    cases h1
  | succ fuel ih =>
    intro listed a w hs hc hI
    refine ⟨fun hr => fin listed a w hI (all_listed he listed hs hr), fun i hi => ?_⟩
    obtain ⟨h1, o, ho, hdep⟩ := mem_ready.1 hi
    have hlt : i < listed.size := by rw [hs]; exact (Array.getElem?_eq_some_iff.1 ho).1
    refine wpOp_mono (fun a' w' h' => ih _ a' w' (by simpa using hs) ?_ h') (step listed a w hI i o ho hdep)
    have h2 : listed.toList[i]? = some false := by
      rw [Array.getElem?_toList, Array.getElem?_eq_getElem hlt]
      rw [Array.getD_eq_getD_getElem?, Array.getElem?_eq_getElem hlt] at h1
      simpa using h1
    have := count_set _ i h2
    rw [Array.toList_setIfInBounds]
    omega
theorem wp_region_rel {id : Nat} {a : Act} {w : World} (hm : P.follows .mixedOrders = true) (I : Array Bool → Act → World → Prop) (he : early ops = true)
    (start : I (Array.replicate ops.size false) a w.drew)
    (step : ∀ listed a w, I listed a w → ∀ i o, ops[i]? = some o → (∀ e ∈ o.after, Region.binds .any e = true → listed.getD e.on false = true) → wpOp P ops Q i (fun a' w' => I (listed.setIfInBounds i true) a' w') a w)
    (fin : ∀ listed a w, I listed a w → (∀ i, i < ops.size → listed.getD i false = true) → Q .normal a w) : (Code.region id ops true).wp P Q a w :=
  wp_region_any hm (wpAny_rel I he step fin _ _ _ _ (by simp) (by simp [List.countP_replicate]) start)
theorem dep_of {o : Oper} {listed : Array Bool} (d : Nat) (h : ∀ e ∈ o.after, Region.binds md e = true → listed.getD e.on false = true) (hd : (o.after.any fun e => e.on == d && Region.binds md e) = true) : listed.getD d false = true := by
  obtain ⟨i, hi, h2⟩ := Array.any_eq_true.1 hd
  simp only [Bool.and_eq_true, beq_iff_eq] at h2
  have := h o.after[i] (Array.getElem_mem hi) h2.2
  rw [h2.1] at this
  exact this
end
/-- What each temporary holds. -/
def upd (t : Nat → Value) (k : Nat) (v : Value) : Nat → Value := fun j => if j = k then v else t j
theorem upd_same (t : Nat → Value) (k : Nat) (v : Value) : upd t k v k = v := if_pos rfl
theorem upd_other (t : Nat → Value) (k j : Nat) (v : Value) (h : j ≠ k) : upd t k v j = t j := if_neg h
/-- The relation behind one more operation. -/
theorem rel_upd {R : Nat → Value → World → Prop} {slot : Nat → Nat} {listed : Array Bool} {t : Nat → Value} {w w' : World} (h : ∀ j, listed.getD j false = true → R j (t (slot j)) w) (mono : ∀ j v, R j v w → R j v w') (i : Nat) (v : Value) (hv : R i v w')
    (inj : ∀ j, j < listed.size → j ≠ i → slot j ≠ slot i) : ∀ j, (listed.setIfInBounds i true).getD j false = true → R j (upd t (slot i) v (slot j)) w' := by
  intro j hj
  by_cases e : j = i
  · subst e; rw [upd_same]; exact hv
  · have hj2 : listed.getD j false = true := by
      rw [← hj]
      simp only [Array.getD_eq_getD_getElem?, Array.getElem?_setIfInBounds]
      rw [if_neg (fun h => e h.symm)]
    have hlt : j < listed.size := by
      rcases Nat.lt_or_ge j listed.size with h | h
      · exact h
      · rw [Array.getD_eq_getD_getElem?, Array.getElem?_eq_none h] at hj2
        simp at hj2
    rw [upd_other _ _ _ _ (inj j hlt e)]
    exact mono j _ (h j hj2)
end Go.Proofs.Ytocbogagfdbcmaa.Rel
