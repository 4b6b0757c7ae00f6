/- The walks of the program's writer: a truth, a text, a key. -/
import Derived.Test.YtinilglljjffjaaCTxt
namespace Go.Proofs.Ytinilglljjffjaa.Cd
set_option linter.unusedVariables false
set_option linter.unusedSimpArgs false
open Go.RowKit
open Go.Proofs.Ytinilglljjffjaa.Num

def tF (b : Bool) : UInt8 := if b then 1 else 0
theorem bool_calls (B g : Nat) (v : Value) (l : List UInt8) (x : Bool) (W : World) (hw : Wst B 27 g v l W) (hB : B ≤ g) (hlen : l.length + 1 ≤ 140737488355328) :
    Calls Try.prog 28 #[.pointer (some ⟨g, 0, none⟩), .bool x] W fun e W' => e = .returned (.tuple #[]) ∧ ∃ v', Wst B 27 g v' (l ++ [tF x]) W' ∧ Turn g v v' W W' := by
  have hb : Below W.heap.size W (W.alloc (.cells #[.int .u8 ((tF x).toNat : Int)] 5)) := below_alloc1 _ _
  have hr : Row8 (W.alloc (.cells #[.int .u8 ((tF x).toNat : Int)] 5)) (some ⟨W.heap.size, 0, none⟩) [tF x] := Row8.lit (heap_alloc_new _ _) rfl
  have hp := put_calls B g v l (some ⟨W.heap.size, 0, none⟩) 1 [tF x] _ (hw.below hb) hB hr (fun h => by cases h) (by simpa using hlen)
  have G := Lib.hid (And.intro hp hb)
  clear hp hb hr hw
  cases x with
  | true =>
    go_enter Try.func28, Try.ntmps28
    go_wp2_with fail
    refine G.out.1.mono ?_
    rintro e W2 ⟨rfl, v2, hw2, ht2⟩
    have H := Lib.hid (And.intro hw2 ((Turn.of_below G.out.2).trans ht2))
    clear hw2 ht2
    go_wp2_with fail
    go_end0
    exact ⟨rfl, _, H.out.1, H.out.2⟩
  | false =>
    go_enter Try.func28, Try.ntmps28
    go_wp2_with fail
    refine G.out.1.mono ?_
    rintro e W2 ⟨rfl, v2, hw2, ht2⟩
    have H := Lib.hid (And.intro hw2 ((Turn.of_below G.out.2).trans ht2))
    clear hw2 ht2
    go_wp2_with fail
    go_end0
    exact ⟨rfl, _, H.out.1, H.out.2⟩
/-- A text: its length, its bytes. -/
def textF (m : List UInt8) : List UInt8 := short m.length ++ m
theorem txt_size (m : List UInt8) : (txt m).size = m.length := rfl
theorem text_row (W : World) (m : List UInt8) (cap : Nat) (t : TypeId) (fr : Nat × Nat) : Row8 (W.drew.alloc (.cells (bytesRow (txt m) cap) t fr)) (some ⟨W.heap.size, 0, none⟩) m := by
  refine .inr ⟨_, rfl, fun i hi => ?_⟩
  have ha : (⟨W.heap.size, 0, none⟩ : Addr).add i = ⟨W.heap.size, i, none⟩ := by unfold Addr.add; split <;> simp_all
  rw [ha]
  have h1 := World.cell?_alloc_mark W.drew (bytesRow (txt m) cap) t fr i
  have h2 : W.drew.heap.size = W.heap.size := rfl
  rw [h2] at h1
  rw [h1, bytesRow_at (txt m) cap i (by show i < m.toArray.size; simpa using hi)]
  rfl
set_option maxRecDepth 100000 in
theorem text_calls (B g : Nat) (v : Value) (l m : List UInt8) (W : World) (hw : Wst B 27 g v l W) (hB : B ≤ g) (hlen : l.length + m.length + 10 ≤ 140737488355328) :
    Calls Try.prog 29 #[.pointer (some ⟨g, 0, none⟩), .string (txt m)] W fun e W' => e = .returned (.tuple #[]) ∧ ∃ v', Wst B 27 g v' (l ++ textF m) W' ∧ Turn g v v' W W' := by
  have hn := num_calls B g v l m.length (by omega) W hw hB (by omega)
  have hsz := txt_size m
  have hsl := short_len m.length
  have hwr : IntKind.u64.wrap (m.length : Int) = (m.length : Int) := wraps_u64 _ (by omega) (by omega)
  have G := Lib.hid (And.intro hn hlen)
  clear hn hlen hw
  obtain ⟨S, hS⟩ : ∃ S, S = txt m := ⟨_, rfl⟩
  rw [← hS] at hsz ⊢
  obtain ⟨n, hnn⟩ : ∃ n, n = m.length := ⟨_, rfl⟩
  have HN := Lib.hid (And.intro hnn hS)
  rw [← hnn] at hsz hwr G hsl
  clear hnn hS
  go_enter Try.func29, Try.ntmps29
  go_wp2_with fail
  refine G.out.1.mono ?_
  rintro e W1 ⟨rfl, v1, hw1, ht1⟩
  have hcv := run_bytes_of_string (P := Try.prog) W1 9 25 5 S Try.underlying9 Try.underlying25 Try.underlying5
  rw [hsz] at hcv
  obtain ⟨cap, hcap⟩ : ∃ cap, cap = grownCap W1 n 0 5 := ⟨_, rfl⟩
  rw [← hcap] at hcv
  have hr : Row8 (W1.drew.alloc (.cells (bytesRow S cap) 5 ((bytesRow S cap).size, (bytesRow S cap).size + 1))) (some ⟨W1.heap.size, 0, none⟩) m := by rw [HN.out.2]; exact text_row W1 m cap _ _
  have hb : Below W1.heap.size W1 (W1.drew.alloc (.cells (bytesRow S cap) 5 ((bytesRow S cap).size, (bytesRow S cap).size + 1))) := (Below.refl _ _).drew.alloc (Nat.le_refl _) _
  obtain ⟨W2, hW2⟩ : ∃ W2, W2 = W1.drew.alloc (.cells (bytesRow S cap) 5 ((bytesRow S cap).size, (bytesRow S cap).size + 1)) := ⟨_, rfl⟩
  rw [← hW2] at hcv hr hb
  have hp := put_calls B g v1 (l ++ short n) (some ⟨W1.heap.size, 0, none⟩) cap m W2 (hw1.below hb) hB hr (fun h => by cases h) (by rw [List.length_append, ← HN.out.1]; have := G.out.2; omega)
  rw [← HN.out.1] at hp
  have H := Lib.hid (And.intro hp (ht1.trans (Turn.of_below hb)))
  clear hp hb hr hW2 hcap hw1 ht1
  go_wp2_with fail
  refine H.out.1.mono ?_
  rintro e W3 ⟨rfl, v3, hw3, ht3⟩
  have H3 := Lib.hid (And.intro hw3 (H.out.2.trans ht3))
  clear hw3 ht3
  go_wp2_with fail
  go_end0
  have h3 := H3.out
  rw [HN.out.1, List.append_assoc] at h3
  exact ⟨rfl, _, h3.1, h3.2⟩
/-- A key's value. -/
def keyV (k : List UInt8) : Value := .agg (k.map v8).toArray
theorem eight {k : List UInt8} (h : k.length = 8) : ∃ a b c d e f g i, k = [a, b, c, d, e, f, g, i] := by
  match k, h with
  | [a, b, c, d, e, f, g, i], _ => exact ⟨a, b, c, d, e, f, g, i, rfl⟩
set_option maxRecDepth 100000 in
theorem key_calls (B g : Nat) (v : Value) (l k : List UInt8) (hk : k.length = 8) (W : World) (hw : Wst B 27 g v l W) (hB : B ≤ g) (hlen : l.length + 8 ≤ 140737488355328) :
    Calls Try.prog 30 #[.pointer (some ⟨g, 0, none⟩), keyV k] W fun e W' => e = .returned (.tuple #[]) ∧ ∃ v', Wst B 27 g v' (l ++ k) W' ∧ Turn g v v' W W' := by
  have hb : Below W.heap.size W (W.alloc (.cells (k.map v8).toArray 55)) := below_alloc1 _ _
  have hr : Row8 (W.alloc (.cells (k.map v8).toArray 55)) (some ⟨W.heap.size, 0, none⟩) k := Row8.lit (heap_alloc_new _ _) rfl
  have hp := put_calls B g v l (some ⟨W.heap.size, 0, none⟩) 8 k _ (hw.below hb) hB hr (fun h => by cases h) (by rw [hk]; exact hlen)
  rw [hk] at hp
  have G := Lib.hid (And.intro hp hb)
  clear hp hb hr hw
  obtain ⟨x0, x1, x2, x3, x4, x5, x6, x7, rfl⟩ := eight hk
  clear hk
  unfold keyV
  go_enter Try.func30, Try.ntmps30
  go_wp2_with fail
  refine G.out.1.mono ?_
  rintro e W2 ⟨rfl, v2, hw2, ht2⟩
  have H := Lib.hid (And.intro hw2 ((Turn.of_below G.out.2).trans ht2))
  clear hw2 ht2
  go_wp2_with fail
  go_end0
  exact ⟨rfl, _, H.out.1, H.out.2⟩
end Go.Proofs.Ytinilglljjffjaa.Cd
