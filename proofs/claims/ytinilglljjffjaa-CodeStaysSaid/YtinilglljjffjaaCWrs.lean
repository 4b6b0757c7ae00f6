/- The walk of the law: what is written of any fields is the document's. -/
import Derived.Test.YtinilglljjffjaaCFld
import Derived.Test.YtinilglljjffjaaCAlive
namespace Go.Proofs.Ytinilglljjffjaa.Cd
set_option linter.unusedVariables false
set_option linter.unusedSimpArgs false
open Go.RowKit
open Go.Proofs.Ytinilglljjffjaa.Num

/-- What is written of fields. -/
def encL (l : List Fd) : List UInt8 := l.flatMap encF
theorem encL_snoc (l : List Fd) (f : Fd) : encL (l ++ [f]) = encL l ++ encF f := by simp [encL]
theorem encF_len (f : Fd) : (encF f).length ≤ 10 + f.s.length := by
  unfold encF
  split
  · have := short_len f.n; omega
  · rw [List.length_singleton]; omega
  · rw [List.length_singleton]; omega
  · unfold textF; have := short_len f.s.length; rw [List.length_append]; omega
  · have h8 := padF_len f.s 8 (by omega)
    have e : keyOf f.s = padF f.s 8 := rfl
    rw [e, h8]; omega
/-- All texts' bytes. -/
def bytesF (l : List Fd) : Nat := (l.map fun f => f.s.length).sum
theorem bytesF_snoc (l : List Fd) (f : Fd) : bytesF (l ++ [f]) = bytesF l + f.s.length := by simp [bytesF]
theorem encL_len (l : List Fd) : (encL l).length ≤ 10 * l.length + bytesF l := by
  induction l with
  | nil => simp [encL]
  | cons x xs ih =>
    have h := encF_len x
    have e : encL (x :: xs) = encF x ++ encL xs := by simp [encL]
    have e2 : bytesF (x :: xs) = x.s.length + bytesF xs := by simp [bytesF]
    rw [e, e2, List.length_append, List.length_cons]
    omega
theorem bytesF_take (l : List Fd) (k : Nat) : bytesF (l.take k) ≤ bytesF l := by
  have h := List.take_append_drop k l
  have e : bytesF l = bytesF (l.take k) + bytesF (l.drop k) := by
    conv => lhs; rw [← h]
    unfold bytesF
    rw [List.map_append, List.sum_append]
  omega
/-- Of texts that are not too long one at most is long. -/
theorem bytes_reach (l : List Fd) (R : Nat) (hR : 65536 ≤ R) (h : ∀ f ∈ l, f.s.length ≤ R) (hc : countF l ≤ 65536) : bytesF l ≤ R := by
  suffices H : bytesF l = countF l ∨ (65536 ≤ countF l ∧ bytesF l + 65536 ≤ countF l + R) ∨ 131072 ≤ countF l by
    rcases H with H | H | H <;> omega
  clear hc
  induction l with
  | nil => exact .inl rfl
  | cons x xs ih =>
    have e1 : bytesF (x :: xs) = x.s.length + bytesF xs := by simp [bytesF]
    have e2 : countF (x :: xs) = min x.s.length 65536 + countF xs := by simp [countF]
    have hx := h x List.mem_cons_self
    have ih := ih (fun f hf => h f (List.mem_cons_of_mem _ hf))
    rcases ih with H | H | H <;> omega
theorem Two.new (w : World) : Two w.heap.size w.heap.size (w.heap.size + 1) (.slice none 0 0) (.slice none 0 0) [] [] ((w.alloc (.cells #[.slice none 0 0] 27)).alloc (.cells #[.slice none 0 0] 29)) := by
  have h1 : Boxed (w.alloc (.cells #[.slice none 0 0] 27)) w.heap.size 27 (.slice none 0 0) := Boxed.new w _ _
  have h2 := Boxed.new (w.alloc (.cells #[.slice none 0 0] 27)) 29 (.slice none 0 0)
  rw [World.size_alloc] at h2
  exact ⟨⟨((below_alloc1 _ _).block _ h1.lt).trans h1, Own8.nil _ _ _⟩, ⟨h2, Own8.nil _ _ _⟩, by omega, fun k hk => by simp [Value.ownBlock] at hk⟩
def allOk (l : List Fd) : Prop := ∀ f ∈ l, f.Ok ∧ f.s.length ≤ 140737488351232
set_option maxHeartbeats 1000000 in
set_option maxRecDepth 100000 in
theorem CodeWrites_walk (a : Option Addr) (c : Nat) (l : List Fd) (W : World) (hr : FRow W a l) (hok : allOk l) (hc : l.length ≤ c) (hm : c ≤ 9223372036854775807) :
    Calls Try.prog 3 #[.slice a l.length c] W fun e W' => e = .returned (.bool true) ∧ Below W.heap.size W W' := by
  have hL := long_f_calls a c l W hr hc hm
  cases hb : longF l with
  | true =>
    rw [hb] at hL
    have G := Lib.hid hL
    clear hL hr hok hc hm hb
    go_enter Try.func3, Try.ntmps3
    go_wp2_with fail
    refine G.out.mono ?_
    rintro e w1 ⟨rfl, hb1⟩
    go_wp2_with fail
    refine (alive_calls w1).mono ?_
    rintro e w2 ⟨rfl, hb2⟩
    go_wp2_with fail
    go_ret
    exact ⟨rfl, hb1.trans (hb2.mono hb1.size)⟩
  | false =>
    rw [hb] at hL
    have hcnt : countF (shortF l) ≤ 65536 := by
      unfold longF at hb
      have := of_decide_eq_false hb
      omega
    have h200 : (shortF l).length ≤ 200 := by rw [shortF_len]; omega
    obtain ⟨q, hq⟩ : ∃ q, q = shortF l := ⟨_, rfl⟩
    have hs : ∀ w, Calls Try.prog 10 #[.slice a l.length c] w fun e w' => e = .returned (.slice a q.length c) ∧ w' = w := fun w => by rw [hq]; exact short_f_calls a c l w hc hm
    have hrq : FRow W a q := by rw [hq]; exact hr.take _
    have hokq : allOk q := fun f hf => hok f (by rw [hq] at hf; exact List.take_subset _ _ hf)
    rw [← hq] at hcnt h200
    have hby := bytes_reach q 140737488351232 (by decide) (fun f hf => (hokq f hf).2) hcnt
    have G := Lib.hid (And.intro hL (And.intro hs (And.intro hrq (And.intro hokq hby))))
    clear hL hs hrq hokq hby hcnt hb hq hr hok hc hm
    go_enter Try.func3, Try.ntmps3
    go_wp2_with fail
    refine G.out.1.mono ?_
    rintro e w1 ⟨rfl, hb1⟩
    go_wp2_with fail
    have hT : Two w1.heap.size w1.heap.size (w1.heap.size + 1) (.slice none 0 0) (.slice none 0 0) [] [] ((w1.alloc (.cells #[.slice none 0 0] 27)).alloc (.cells #[.slice none 0 0] 29)) := Two.new w1
    have hb2 : Below w1.heap.size w1 ((w1.alloc (.cells #[.slice none 0 0] 27)).alloc (.cells #[.slice none 0 0] 29)) := (below_alloc1 _ _).alloc (by simp) _
    have hs2 : w1.heap.size + 1 < ((w1.alloc (.cells #[.slice none 0 0] 27)).alloc (.cells #[.slice none 0 0] 29)).heap.size := by simp
    have H := Lib.hid (And.intro hT (And.intro hb2 (hb1.trans (hb2.mono hb1.size))))
    clear hT hb2
    generalize (w1.alloc (.cells #[.slice none 0 0] 27)).alloc (.cells #[.slice none 0 0] 29) = W2 at H hs2 ⊢
    refine (G.out.2.1 W2).mono ?_
    rintro e w2 ⟨rfl, rfl⟩
    go_wp2_with fail
    go_loopw [13] (fun i wr => ∃ (k : Nat) (v1 v2 : Value), k ≤ q.length ∧ i = .int .i64 (k : Int) ∧ Two w1.heap.size w1.heap.size (w1.heap.size + 1) v1 v2 (encL (q.take k)) (encL (q.take k)) wr ∧ Below W.heap.size W wr ∧ w1.heap.size + 1 < wr.heap.size) (fun i _ => q.length - (intOf i).toNat)
    case atStart => exact ⟨0, _, _, by omega, rfl, H.out.1, H.out.2.2, hs2⟩
    case round =>
      obtain ⟨k, v1, v2, hk, rfl, hT, hB, hsz⟩ := hrel
      by_cases hlt : k < q.length
      · obtain ⟨y, rfl, hcs⟩ : ∃ y, a = some y ∧ ∀ i : Nat, ∀ h : i < q.length, _ := (G.out.2.2.1.below hB).resolve_left (fun h => by rw [h] at hlt; simp at hlt)
        obtain ⟨c0, c1, c2, c3⟩ := hcs k hlt
        have hst : encL (q.take (k + 1)) = encL (q.take k) ++ encF q[k] := by rw [List.take_succ_eq_append_getElem hlt, encL_snoc]
        have hfo := G.out.2.2.2.1 q[k] (List.getElem_mem hlt)
        have hle := encL_len (q.take k)
        rw [List.length_take, Nat.min_eq_left hk] at hle
        have hby := bytesF_take q (k + 1)
        rw [List.take_succ_eq_append_getElem hlt, bytesF_snoc] at hby
        obtain ⟨f, hf⟩ : ∃ f, f = q[k] := ⟨_, rfl⟩
        rw [← hf] at c0 c1 c2 c3 hst hfo hby
        have hl : (encL (q.take k)).length + f.s.length + 2000 ≤ 140737488355328 := by have := G.out.2.2.2.2; omega
        have HT := Lib.hid (And.intro hst (And.intro hfo (And.intro hl (And.intro hT hB))))
        clear hst hfo hle hby hf hcs hT hB hl
        go_wp2_with fail
        have hb3 := below_alloc1 wr (.cells #[.int .u8 (f.k : Int), .int .u64 (f.n : Int), .string (txt f.s), .int .i64 f.most] 33)
        have H3 := Lib.hid (And.intro (HT.out.2.2.2.1.below hb3) (HT.out.2.2.2.2.trans (hb3.mono HT.out.2.2.2.2.size)))
        have hs3 := hb3.size
        clear hb3 c0 c1 c2 c3
        generalize wr.alloc (.cells #[.int .u8 (f.k : Int), .int .u64 (f.n : Int), .string (txt f.s), .int .i64 f.most] 33) = w3 at H3 hs3 ⊢
        refine (write_calls w1.heap.size w1.heap.size (w1.heap.size + 1) v1 v2 _ _ f HT.out.2.1.1 w3 H3.out.1 (Nat.le_refl _) (by omega) (by omega) ⟨HT.out.2.2.1, HT.out.2.2.1⟩).mono ?_
        rintro e w4 ⟨rfl, v1', v2', hT4, hb4⟩
        have hs4 := hb4.size
        have H4 := Lib.hid (And.intro hT4 (H3.out.2.trans (hb4.mono hb1.size)))
        have h4lt := hT4.w2.box.lt
        clear hT4 hb4
        go_wp2_with fail
        go_roundw
        case rel => exact ⟨k + 1, v1', v2', by omega, by go_num, by rw [HT.out.1]; exact H4.out.1, H4.out.2, by omega⟩
        case measure => (first | (simp [intOf]; done) | (simp [intOf]; omega))
      · obtain rfl : k = q.length := by omega
        rw [List.take_length] at hT
        have hle := encL_len q
        have hl : (encL q).length ≤ 140737488355328 := by have := G.out.2.2.2.2; omega
        obtain ⟨m, hm⟩ : ∃ m, m = encL q := ⟨_, rfl⟩
        rw [← hm] at hT hl
        obtain ⟨A2, c2, hv2, hr2, _⟩ := hT.w2.own.row
        subst hv2
        have hc2 := hT.w2.box.cell
        have HT := Lib.hid (And.intro hT (And.intro hB (And.intro hr2 hl)))
        clear hT hB hle hl hm hr2
        go_wp2_with fail
        have hd : Below wr.heap.size wr wr.drew := (Below.refl _ _).drew
        have hBy : Calls Try.prog 13 #[.pointer (some ⟨w1.heap.size, 0, none⟩)] wr.drew fun e W' => ∃ A c, e = .returned (.slice A m.length c) ∧ Row8 W' A m ∧ Row8 W' A2 m ∧ Below W.heap.size W W' ∧ W'.cell? ⟨w1.heap.size + 1, 0, none⟩ = some (Value.slice A2 m.length c2) := by
          refine (bytes_calls w1.heap.size w1.heap.size v1 m wr.drew (HT.out.1.below hd).w1 HT.out.2.2.2).mono ?_
          rintro e W' ⟨v', rfl, ho, hb⟩
          obtain ⟨A, c, rfl, hr, _⟩ := ho.row
          exact ⟨A, c, rfl, hr, (HT.out.2.2.1.below hd).below hb, HT.out.2.1.trans ((hd.mono HT.out.2.1.size).trans (hb.mono (Nat.le_trans HT.out.2.1.size hd.size))), (hb.cell (World.block_lt_of_cell? wr _ hc2)).trans hc2⟩
        have HB := Lib.hid hBy
        clear hBy hd
        go_region_held3 (fun W' => W'.cell? ⟨w1.heap.size + 1, 0, none⟩ = some (Value.slice A2 m.length c2)) (first | exact hc2 | exact hcB | exact (hbA.cell (World.block_lt_of_cell? _ _ hcB)).trans hcB) (first | (go_at_call 13; ((with_reducible refine (HB.out).mono ?_); rintro e w' ⟨AB, cB, rfl, hrB, hrB2, hbB, hcB⟩)) | (go_at_call 12; ((with_reducible refine (same_calls AB cB m A2 c2 m _ hrB hrB2).mono ?_); rintro e w' ⟨rfl, rfl⟩)) | (go_at_call 9; ((with_reducible refine (alive_calls _).mono ?_); rintro e w' ⟨rfl, hbA⟩)))
        go_wp2_with fail
        go_ret
        exact ⟨rfl, hbB.trans (hbA.mono hbB.size)⟩
end Go.Proofs.Ytinilglljjffjaa.Cd
