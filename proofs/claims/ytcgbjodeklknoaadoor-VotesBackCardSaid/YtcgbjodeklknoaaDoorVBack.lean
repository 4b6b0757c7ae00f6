/- The walks of: a configuration is put, and got. -/
import Derived.Test.YtcgbjodeklknoaaDoorVMakes
import Derived.Test.YtcgbjodeklknoaaDoorCR
namespace Go.Proofs.YtcgbjodeklknoaaDoor.Vo
set_option linter.unusedVariables false
set_option linter.unusedSimpArgs false
open Go.RowKit
open Go.Proofs.YtcgbjodeklknoaaDoor.Bit
open Go.Proofs.YtcgbjodeklknoaaDoor.Cd
open Go.Proofs.YtcgbjodeklknoaaDoor.Num (short long long_short)

/-- The three numbers of a configuration. -/
def Cf.nums (c : Cf) : List Nat := [c.e, c.r, c.q]
def encN (l : List Nat) : List UInt8 := l.flatMap short
def encB (l : List Nat) : List UInt8 := l.map UInt8.ofNat
def encC (c : Cf) : List UInt8 := encN c.nums ++ encB c.V
theorem encN_snoc (l : List Nat) (n : Nat) : encN (l ++ [n]) = encN l ++ short n := by unfold encN; simp
theorem encB_snoc (l : List Nat) (n : Nat) : encB (l ++ [n]) = encB l ++ [UInt8.ofNat n] := by unfold encB; simp
theorem encN_len (l : List Nat) : (encN l).length ≤ 10 * l.length := by
  induction l with
  | nil => simp [encN]
  | cons x xs ih =>
    have := short_len x
    unfold encN at ih ⊢
    rw [List.flatMap_cons, List.length_append, List.length_cons]
    omega
theorem lt3 {k : Nat} (h : k < 3) : k = 0 ∨ k = 1 ∨ k = 2 := by omega
theorem turn_heap {g : Nat} {v v' : Value} {W W' : World} (h : Turn g v v' W W') {k : Nat} {o : Obj} (hk : W.heap[k]? = some o) (hg : k ≠ g) (hv : v.ownBlock ≠ some k) : W'.heap[k]? = some o :=
  (h.keep k (Array.getElem?_eq_some_iff.1 hk).1 hg hv).trans hk
set_option maxHeartbeats 2000000 in
set_option maxRecDepth 100000 in
theorem cput_calls (B g : Nat) (v : Value) (l : List UInt8) (c : Cf) (hc : c.Ok) (W : World) (hw : Wst B 53 g v l W) (hB : B ≤ g) (hlen : l.length + 1000 ≤ 140737488355328) :
    Calls Tryd.prog 32 #[.pointer (some ⟨g, 0, none⟩), c.val] W fun e W' => e = .returned (.tuple #[]) ∧ ∃ v', Wst B 53 g v' (l ++ encC c) W' ∧ Turn g v v' W W' := by
  have hr := hc.r
  have hq := hc.q
  have he := hc.e
  have hb : Below W.heap.size W ((W.alloc (.cells #[.int .u32 (c.e : Int), .int .u8 (c.r : Int), .int .u8 (c.q : Int), .int .u8 (c.v0 : Int), .int .u8 (c.v1 : Int), .int .u8 (c.v2 : Int), .int .u8 (c.v3 : Int), .int .u8 (c.v4 : Int), .int .u8 (c.v5 : Int), .int .u8 (c.v6 : Int), .int .u8 (c.v7 : Int)] 25)).alloc (.cells #[.int .u32 (c.e : Int), .int .u32 (c.r : Int), .int .u32 (c.q : Int)] 22)) := (by repeat (first | exact Below.refl _ _ | assumption | apply Below.drew | apply below_drewN | (refine Below.alloc ?_ (by first | (simp; done) | omega | (simp; omega)) _)))
  have h1 : ((W.alloc (.cells #[.int .u32 (c.e : Int), .int .u8 (c.r : Int), .int .u8 (c.q : Int), .int .u8 (c.v0 : Int), .int .u8 (c.v1 : Int), .int .u8 (c.v2 : Int), .int .u8 (c.v3 : Int), .int .u8 (c.v4 : Int), .int .u8 (c.v5 : Int), .int .u8 (c.v6 : Int), .int .u8 (c.v7 : Int)] 25)).alloc (.cells #[.int .u32 (c.e : Int), .int .u32 (c.r : Int), .int .u32 (c.q : Int)] 22)).heap[W.heap.size]? = some (.cells c.cells.toArray 25 (0, 0)) := by
    rw [heap_alloc_old _ _ (by simp), heap_alloc_new]; rfl
  have h2 : ((W.alloc (.cells #[.int .u32 (c.e : Int), .int .u8 (c.r : Int), .int .u8 (c.q : Int), .int .u8 (c.v0 : Int), .int .u8 (c.v1 : Int), .int .u8 (c.v2 : Int), .int .u8 (c.v3 : Int), .int .u8 (c.v4 : Int), .int .u8 (c.v5 : Int), .int .u8 (c.v6 : Int), .int .u8 (c.v7 : Int)] 25)).alloc (.cells #[.int .u32 (c.e : Int), .int .u32 (c.r : Int), .int .u32 (c.q : Int)] 22)).heap[W.heap.size + 1]? = some (.cells #[.int .u32 (c.e : Int), .int .u32 (c.r : Int), .int .u32 (c.q : Int)] 22 (0, 0)) := by
    have := heap_alloc_new (W.alloc (.cells #[.int .u32 (c.e : Int), .int .u8 (c.r : Int), .int .u8 (c.q : Int), .int .u8 (c.v0 : Int), .int .u8 (c.v1 : Int), .int .u8 (c.v2 : Int), .int .u8 (c.v3 : Int), .int .u8 (c.v4 : Int), .int .u8 (c.v5 : Int), .int .u8 (c.v6 : Int), .int .u8 (c.v7 : Int)] 25)) (.cells #[.int .u32 (c.e : Int), .int .u32 (c.r : Int), .int .u32 (c.q : Int)] 22)
    rwa [World.size_alloc] at this
  have hvo : ∀ k, W.heap.size ≤ k → v.ownBlock ≠ some k := fun k hk e => by have := (hw.own.lt k e).2; omega
  have hglt := hw.box.lt
  have hW1 : IntKind.u32.wrap (c.r : Int) = (c.r : Int) := by rw [IntKind.wrap_u32]; omega
  have hW2 : IntKind.u32.wrap (c.q : Int) = (c.q : Int) := by rw [IntKind.wrap_u32]; omega
  have G := Lib.hid (And.intro (hw.below hb) (And.intro hb (And.intro h1 (And.intro h2 (And.intro hvo (And.intro hc hlen))))))
  clear hw hb h1 h2 hvo hc hlen
  unfold Cf.val
  go_enter Tryd.func32, Tryd.ntmps32
  go_wp2_with fail
  generalize (W.alloc (.cells #[.int .u32 (c.e : Int), .int .u8 (c.r : Int), .int .u8 (c.q : Int), .int .u8 (c.v0 : Int), .int .u8 (c.v1 : Int), .int .u8 (c.v2 : Int), .int .u8 (c.v3 : Int), .int .u8 (c.v4 : Int), .int .u8 (c.v5 : Int), .int .u8 (c.v6 : Int), .int .u8 (c.v7 : Int)] 25)).alloc (.cells #[.int .u32 (c.e : Int), .int .u32 (c.r : Int), .int .u32 (c.q : Int)] 22) = W1 at G ⊢
  go_loopw [18] (fun i wr => ∃ (k : Nat) (v2 : Value), k ≤ 3 ∧ i = .int .i64 (k : Int) ∧ Wst B 53 g v2 (l ++ encN (c.nums.take k)) wr ∧ Turn g v v2 W1 wr) (fun i _ => 3 - (intOf i).toNat)
  case atStart => exact ⟨0, v, by omega, rfl, by simpa [encN] using G.out.1, Turn.of_below (Below.refl _ _)⟩
  case round =>
    obtain ⟨k, v2, hk, rfl, hw2, ht2⟩ := hrel
    have H := Lib.hid (And.intro hw2 ht2)
    clear hw2 ht2
    by_cases hlt : k < 3
    · have hbl := turn_heap H.out.2 G.out.2.2.2.1 (by omega) (G.out.2.2.2.2.1 _ (by omega))
      have hck : wr.cell? ((⟨W.heap.size + 1, 0, none⟩ : Addr).add k) = some (.int .u32 (c.nums.getD k 0 : Int)) := by
        rw [cell_block hbl]
        rcases lt3 hlt with rfl | rfl | rfl <;> rfl
      have hk0 : wr.cell? ⟨W.heap.size + 1, k, none⟩ = some (.int .u32 (c.nums.getD k 0 : Int)) := by
        rw [← hck]; unfold Addr.add; split <;> simp_all
      have hnx : c.nums.take (k + 1) = c.nums.take k ++ [c.nums.getD k 0] := by rcases lt3 hlt with rfl | rfl | rfl <;> rfl
      have hnb : c.nums.getD k 0 < 18446744073709551616 := by rcases lt3 hlt with rfl | rfl | rfl <;> (simp [Cf.nums]; omega)
      have hle := encN_len (c.nums.take k)
      have htl : (c.nums.take k).length ≤ 3 := by rw [List.length_take]; exact Nat.le_trans (Nat.min_le_left _ _) hk
      have hnum := num_calls B g v2 (l ++ encN (c.nums.take k)) (c.nums.getD k 0) hnb wr H.out.1 hB (by rw [List.length_append]; have := G.out.2.2.2.2.2.2; omega)
      have hen := encN_snoc (c.nums.take k) (c.nums.getD k 0)
      rw [← hnx] at hen
      obtain ⟨n, hn⟩ : ∃ n, n = c.nums.getD k 0 := ⟨_, rfl⟩
      rw [← hn] at hck hk0 hnum hnb hen
      have HN := Lib.hid (And.intro hnum hen)
      clear hnum hen hn hbl hnx hle htl
      go_wp2_with fail
      refine HN.out.1.mono ?_
      rintro e W3 ⟨rfl, v3, hw3, ht3⟩
      have H3 := Lib.hid (And.intro hw3 (H.out.2.trans ht3))
      clear hw3 ht3
      go_wp2_with fail
      go_roundw
      case rel => exact ⟨k + 1, v3, by omega, by go_num, by rw [HN.out.2, ← List.append_assoc]; exact H3.out.1, H3.out.2⟩
      case measure => (first | (simp [intOf]; done) | (simp [intOf]; omega))
    · obtain rfl : k = 3 := by omega
      have hbl := turn_heap H.out.2 G.out.2.2.1 (by omega) (G.out.2.2.2.2.1 _ (by omega))
      obtain ⟨k0, k1, k2, k3, k4, k5, k6, k7, k8, k9, k10⟩ := boxS_heap hbl
      clear hbl
      go_wp2_with fail
      clear k0 k1 k2 k3 k4 k5 k6 k7 k8 k9 k10
      go_loopw [29] (fun i w5 => ∃ (m : Nat) (v5 : Value), m ≤ 8 ∧ i = .int .i64 (m : Int) ∧ Wst B 53 g v5 (l ++ (encN c.nums ++ encB (c.V.take m))) w5 ∧ Turn g v v5 W1 w5) (fun i _ => 8 - (intOf i).toNat)
      case atStart => exact ⟨0, v2, by omega, rfl, by simpa [encB, Cf.nums] using H.out.1, H.out.2⟩
      case round =>
        obtain ⟨m, v5, hm, rfl, hw5, ht5⟩ := hrel
        have H5 := Lib.hid (And.intro hw5 ht5)
        clear hw5 ht5
        by_cases hlt2 : m < 8
        · have hix := index_vote c m hlt2
          have hvb := G.out.2.2.2.2.2.1.get m
          have hx : ((c.V.getD m 0 : Nat) : Int) = ((UInt8.ofNat (c.V.getD m 0)).toNat : Int) := by rw [UInt8.toNat_ofNat']; omega
          have hle := encN_len c.nums
          have hn3 : c.nums.length = 3 := rfl
          have hl8 : (encB (c.V.take m)).length ≤ 8 := by unfold encB; rw [List.length_map, List.length_take]; omega
          have hby := byte_calls B g v5 (l ++ (encN c.nums ++ encB (c.V.take m))) (UInt8.ofNat (c.V.getD m 0)) wr H5.out.1 hB (by simp only [List.length_append]; have := G.out.2.2.2.2.2.2; omega)
          have hen := encB_snoc (c.V.take m) (c.V.getD m 0)
          rw [← take_next c.V m hlt2] at hen
          rw [← hx] at hby
          obtain ⟨n, hn⟩ : ∃ n, n = c.V.getD m 0 := ⟨_, rfl⟩
          rw [← hn] at hix hby hen
          have HN := Lib.hid (And.intro hby hen)
          clear hby hen hn hx hle hl8 hvb
          go_wp2_with fail
          refine HN.out.1.mono ?_
          rintro e W3 ⟨rfl, v3, hw3, ht3⟩
          have H3 := Lib.hid (And.intro hw3 (H5.out.2.trans ht3))
          clear hw3 ht3
          go_wp2_with fail
          go_roundw
          case rel => first | exact ⟨m + 1, v3, by omega, by go_num, by rw [HN.out.2]; have := H3.out.1; simpa [List.append_assoc] using this, H3.out.2⟩ | ((repeat apply Exists.intro); exact ⟨⟨m + 1, v3, by omega, by go_num, by rw [HN.out.2]; have := H3.out.1; simpa [List.append_assoc] using this, H3.out.2⟩, rfl⟩)
          case measure => (first | (simp [intOf]; done) | (simp [intOf]; omega))
        · obtain rfl : m = 8 := by omega
          go_wp2_with fail
          go_end0
          exact ⟨rfl, v5, H5.out.1, (Turn.of_below G.out.2.1).trans H5.out.2⟩
/-! A configuration is got. -/
def seqB (l : List UInt8) (s : Rs) : Nat → Rs
  | 0 => s
  | k + 1 => (fieldF 0 oneF l (seqB l s k)).2
def btB (l : List UInt8) (s : Rs) (k : Nat) : Nat := (fieldF 0 oneF l (seqB l s k)).1
def gz (i k v : Nat) : Nat := if i < k then v else 0
def gC (e r q : Nat) (bt : Nat → Nat) (k : Nat) : Cf := ⟨e, r, q, gz 0 k (bt 0), gz 1 k (bt 1), gz 2 k (bt 2), gz 3 k (bt 3), gz 4 k (bt 4), gz 5 k (bt 5), gz 6 k (bt 6), gz 7 k (bt 7)⟩
theorem gC_set (e r q : Nat) (bt : Nat → Nat) (k : Nat) (hk : k < 8) : (gC e r q bt k).cells.toArray.setIfInBounds (3 + k) (.int .u8 (bt k : Int)) = (gC e r q bt (k + 1)).cells.toArray := by
  rcases lt8 hk with rfl | rfl | rfl | rfl | rfl | rfl | rfl | rfl <;> simp [gC, gz, Cf.cells]
def getA (l : List UInt8) (s : Rs) : Nat × Rs := fieldF 0 (readF 2147483647) l s
def getB (l : List UInt8) (s : Rs) : Nat × Rs := fieldF 0 (readF 255) l (getA l s).2
def getD_ (l : List UInt8) (s : Rs) : Nat × Rs := fieldF 0 (readF 255) l (getB l s).2
def getC (l : List UInt8) (s : Rs) : Cf := gC (getA l s).1 (getB l s).1 (getD_ l s).1 (btB l (getD_ l s).2) 8
def getS (l : List UInt8) (s : Rs) : Rs := seqB l (getD_ l s).2 8
def getF (l : List UInt8) (s : Rs) : Cf := if (getS l s).why = 0 ∧ (getS l s).fat = 0 then getC l s else Cf.zero
theorem field_most (most : Nat) (l : List UInt8) (s : Rs) : (fieldF 0 (readF most) l s).1 ≤ most := by
  unfold fieldF
  split
  · split
    · rename_i h
      unfold readF at h ⊢
      simp only at h ⊢
      split at h
      · omega
      · rename_i h2
        by_cases h3 : most < (long (l.drop s.at_)).1
        · exact absurd ⟨h, h3⟩ h2
        · omega
    · exact Nat.zero_le _
  · exact Nat.zero_le _
theorem field_byte (l : List UInt8) (s : Rs) : (fieldF 0 oneF l s).1 < 256 := by
  unfold fieldF
  split
  · split
    · cases l.drop s.at_ with
      | nil => show 0 < 256; omega
      | cons x xs => exact x.toNat_lt
    · show 0 < 256; omega
  · show 0 < 256; omega
theorem but_setc {g b : Nat} {W W' : World} (h : But g W W') (hb : W.heap.size ≤ b) (i : Nat) (v : Value) : But g W (W'.setCell ⟨b, i, none⟩ v) := by
  have hs : W'.heap.size = (W'.setCell ⟨b, i, none⟩ v).heap.size := by simp
  refine ⟨h.os, h.tape, h.output, hs ▸ h.size, fun k hk hg hv => ?_, fun k hk => by simp [Value.ownBlock] at hk⟩
  rw [Below.heap_setCell _ ⟨b, i, none⟩ _ _ (by show k ≠ b; omega)]
  exact h.keep k hk hg hv
theorem rst_setc {g b : Nat} {A : Option Addr} {c : Nat} {l : List UInt8} {s : Rs} {W : World} (h : Rst g A c l s W) (hgb : g < b) (i : Nat) (v : Value) : Rst g A c l s (W.setCell ⟨b, i, none⟩ v) := by
  refine ⟨?_, ?_, h.cap, h.big, h.nul, h.far, h.at_, h.fat, h.why⟩
  · rw [Below.heap_setCell _ ⟨b, i, none⟩ _ _ (by show g ≠ b; omega)]; exact h.box
  · rcases h.row with h1 | ⟨z, hz, hc⟩
    · exact .inl h1
    · refine .inr ⟨z, hz, fun j hj => ?_⟩
      have hb : (z.add j).block = z.block := by unfold Addr.add; split <;> rfl
      have := h.far z hz
      rw [World.cell?_setCell_other _ ⟨b, i, none⟩ _ _ (by intro e; have := congrArg Addr.block e; rw [hb] at this; simp at this; omega)]
      exact hc j hj
/-- The reader, the block of the result, and the block of what is got so far. -/
structure Gst (W : World) (g : Nat) (A : Option Addr) (cp : Nat) (l : List UInt8) (s : Rs) (cf : Cf) (wr : World) : Prop where
  rst : Rst g A cp l s wr
  but : But g W wr
  zero : wr.heap[W.heap.size]? = some (.cells Cf.zero.cells.toArray 25 (0, 0))
  cur : wr.heap[W.heap.size + 1]? = some (.cells cf.cells.toArray 25 (0, 0))
theorem Gst.call {W : World} {g : Nat} {A : Option Addr} {cp : Nat} {l : List UInt8} {s s' : Rs} {cf : Cf} {wr wr' : World} (h : Gst W g A cp l s cf wr) (hg : g < W.heap.size) (hr : Rst g A cp l s' wr') (hb : But g wr wr') : Gst W g A cp l s' cf wr' :=
  ⟨hr, h.but.trans hb, hb.heap h.zero (by omega), hb.heap h.cur (by omega)⟩
theorem Gst.set {W : World} {g : Nat} {A : Option Addr} {cp : Nat} {l : List UInt8} {s : Rs} {cf cf' : Cf} {wr : World} (h : Gst W g A cp l s cf wr) (hg : g < W.heap.size) (i : Nat) (v : Value) (hc : cf.cells.toArray.setIfInBounds i v = cf'.cells.toArray) : Gst W g A cp l s cf' (wr.setCell ⟨W.heap.size + 1, i, none⟩ v) := by
  refine ⟨rst_setc h.rst (by omega) _ _, but_setc h.but (by omega) _ _, ?_, ?_⟩
  · rw [Below.heap_setCell _ ⟨W.heap.size + 1, i, none⟩ _ _ (by show W.heap.size ≠ W.heap.size + 1; omega)]; exact h.zero
  · rw [← hc]; exact Vo.block_set h.cur v
theorem set11 {b g : Nat} {A : Option Addr} {c : Nat} {l : List UInt8} {s : Rs} {W w1 : World} (h : Rst g A c l s w1) (k : But g W w1) (hgb : g < b) (hWb : W.heap.size ≤ b) (v0 v1 v2 v3 v4 v5 v6 v7 v8 v9 v10 : Value) :
    Rst g A c l s (((((((((((w1.setCell ⟨b, 0, none⟩ v0).setCell ⟨b, 1, none⟩ v1).setCell ⟨b, 2, none⟩ v2).setCell ⟨b, 3, none⟩ v3).setCell ⟨b, 4, none⟩ v4).setCell ⟨b, 5, none⟩ v5).setCell ⟨b, 6, none⟩ v6).setCell ⟨b, 7, none⟩ v7).setCell ⟨b, 8, none⟩ v8).setCell ⟨b, 9, none⟩ v9).setCell ⟨b, 10, none⟩ v10) ∧ But g W (((((((((((w1.setCell ⟨b, 0, none⟩ v0).setCell ⟨b, 1, none⟩ v1).setCell ⟨b, 2, none⟩ v2).setCell ⟨b, 3, none⟩ v3).setCell ⟨b, 4, none⟩ v4).setCell ⟨b, 5, none⟩ v5).setCell ⟨b, 6, none⟩ v6).setCell ⟨b, 7, none⟩ v7).setCell ⟨b, 8, none⟩ v8).setCell ⟨b, 9, none⟩ v9).setCell ⟨b, 10, none⟩ v10) := ⟨(rst_setc (rst_setc (rst_setc (rst_setc (rst_setc (rst_setc (rst_setc (rst_setc (rst_setc (rst_setc (rst_setc h hgb 0 v0) hgb 1 v1) hgb 2 v2) hgb 3 v3) hgb 4 v4) hgb 5 v5) hgb 6 v6) hgb 7 v7) hgb 8 v8) hgb 9 v9) hgb 10 v10), (but_setc (but_setc (but_setc (but_setc (but_setc (but_setc (but_setc (but_setc (but_setc (but_setc (but_setc k hWb 0 v0) hWb 1 v1) hWb 2 v2) hWb 3 v3) hWb 4 v4) hWb 5 v5) hWb 6 v6) hWb 7 v7) hWb 8 v8) hWb 9 v9) hWb 10 v10)⟩
set_option maxHeartbeats 4000000 in
set_option maxRecDepth 100000 in
theorem cget_calls (g : Nat) (A : Option Addr) (cp : Nat) (l : List UInt8) (s : Rs) (W : World) (h : Rst g A cp l s W) :
    Calls Tryd.prog 35 #[.pointer (some ⟨g, 0, none⟩)] W fun e W' => e = .returned (getF l s).val ∧ Rst g A cp l (getS l s) W' ∧ But g W W' := by
  have hlt := (Array.getElem?_eq_some_iff.1 h.box).1
  have h0 : Gst W g A cp l s (gC 0 0 0 (btB l (getD_ l s).2) 0) ((W.alloc (.cells #[.int .u32 0, .int .u8 0, .int .u8 0, .int .u8 0, .int .u8 0, .int .u8 0, .int .u8 0, .int .u8 0, .int .u8 0, .int .u8 0, .int .u8 0] 25)).alloc (.cells #[.int .u32 0, .int .u8 0, .int .u8 0, .int .u8 0, .int .u8 0, .int .u8 0, .int .u8 0, .int .u8 0, .int .u8 0, .int .u8 0, .int .u8 0] 25)) := by
    have hb : Below W.heap.size W ((W.alloc (.cells #[.int .u32 0, .int .u8 0, .int .u8 0, .int .u8 0, .int .u8 0, .int .u8 0, .int .u8 0, .int .u8 0, .int .u8 0, .int .u8 0, .int .u8 0] 25)).alloc (.cells #[.int .u32 0, .int .u8 0, .int .u8 0, .int .u8 0, .int .u8 0, .int .u8 0, .int .u8 0, .int .u8 0, .int .u8 0, .int .u8 0, .int .u8 0] 25)) := (by repeat (first | exact Below.refl _ _ | assumption | apply Below.drew | apply below_drewN | (refine Below.alloc ?_ (by first | (simp; done) | omega | (simp; omega)) _)))
    refine ⟨h.below hb, But.of_below hb, ?_, ?_⟩
    · rw [heap_alloc_old _ _ (by simp), heap_alloc_new]; rfl
    · have := heap_alloc_new (W.alloc (.cells #[.int .u32 0, .int .u8 0, .int .u8 0, .int .u8 0, .int .u8 0, .int .u8 0, .int .u8 0, .int .u8 0, .int .u8 0, .int .u8 0, .int .u8 0] 25)) (.cells #[.int .u32 0, .int .u8 0, .int .u8 0, .int .u8 0, .int .u8 0, .int .u8 0, .int .u8 0, .int .u8 0, .int .u8 0, .int .u8 0, .int .u8 0] 25)
      rw [World.size_alloc] at this
      rw [this]; rfl
  have cA := fun wr (h : Rst g A cp l s wr) => rnum_calls g A cp l s 2147483647 (by omega) wr h
  have cB := fun wr (h : Rst g A cp l (getA l s).2 wr) => rnum_calls g A cp l (getA l s).2 255 (by omega) wr h
  have cD := fun wr (h : Rst g A cp l (getB l s).2 wr) => rnum_calls g A cp l (getB l s).2 255 (by omega) wr h
  have bA : (getA l s).1 ≤ 2147483647 := field_most _ _ _
  have bB : (getB l s).1 ≤ 255 := field_most _ _ _
  have bD : (getD_ l s).1 ≤ 255 := field_most _ _ _
  change ∀ wr, Rst g A cp l s wr → Calls _ _ _ wr fun e W' => e = .returned (.int .u64 ((getA l s).1 : Int)) ∧ Rst g A cp l (getA l s).2 W' ∧ But g wr W' at cA
  change ∀ wr, Rst g A cp l (getA l s).2 wr → Calls _ _ _ wr fun e W' => e = .returned (.int .u64 ((getB l s).1 : Int)) ∧ Rst g A cp l (getB l s).2 W' ∧ But g wr W' at cB
  change ∀ wr, Rst g A cp l (getB l s).2 wr → Calls _ _ _ wr fun e W' => e = .returned (.int .u64 ((getD_ l s).1 : Int)) ∧ Rst g A cp l (getD_ l s).2 W' ∧ But g wr W' at cD
  have hgetF : getF l s = if (seqB l (getD_ l s).2 8).why = 0 ∧ (seqB l (getD_ l s).2 8).fat = 0 then gC (getA l s).1 (getB l s).1 (getD_ l s).1 (btB l (getD_ l s).2) 8 else Cf.zero := rfl
  have hgetS : getS l s = seqB l (getD_ l s).2 8 := rfl
  obtain ⟨M, hM⟩ : ∃ M, M = getF l s := ⟨_, rfl⟩
  rw [← hM, hgetS]
  rw [hgetF] at hM
  clear hgetF hgetS
  generalize getA l s = a at cA cB bA hM
  generalize getB l s = b at cB cD bB hM
  generalize getD_ l s = d at cD bD h0 hM ⊢
  obtain ⟨an, sa⟩ := a
  obtain ⟨bn, sb⟩ := b
  obtain ⟨dn, sd⟩ := d
  simp only at cA cB cD bA bB bD h0 hM ⊢
  have HM := Lib.hid hM
  have G := Lib.hid (And.intro h0 (And.intro cA (And.intro cB cD)))
  clear h0 cA cB cD h hM
  have wA : IntKind.u32.wrap (an : Int) = (an : Int) := by rw [IntKind.wrap_u32]; omega
  have wB : IntKind.u8.wrap (bn : Int) = (bn : Int) := by rw [IntKind.wrap_u8]; omega
  have wD : IntKind.u8.wrap (dn : Int) = (dn : Int) := by rw [IntKind.wrap_u8]; omega
  have mA : (an : Int) % 4294967296 = (an : Int) := by omega
  have mB : (bn : Int) % 256 = (bn : Int) := by omega
  have mD : (dn : Int) % 256 = (dn : Int) := by omega
  have hbt := fun k => field_byte l (seqB l sd k)
  clear bA bB bD
  go_enter Tryd.func35, Tryd.ntmps35
  go_wp2_with fail
  generalize (W.alloc (.cells #[.int .u32 0, .int .u8 0, .int .u8 0, .int .u8 0, .int .u8 0, .int .u8 0, .int .u8 0, .int .u8 0, .int .u8 0, .int .u8 0, .int .u8 0] 25)).alloc (.cells #[.int .u32 0, .int .u8 0, .int .u8 0, .int .u8 0, .int .u8 0, .int .u8 0, .int .u8 0, .int .u8 0, .int .u8 0, .int .u8 0, .int .u8 0] 25) = w1 at G ⊢
  refine (G.out.2.1 w1 G.out.1.rst).mono ?_
  rintro e w2 ⟨rfl, hr2, hb2⟩
  have H2 := Lib.hid (G.out.1.call hlt hr2 hb2)
  have k0 := (boxS_heap H2.out.cur).1
  have f0 := free_block H2.out.cur 0
  have H3 := Lib.hid (H2.out.set (cf' := gC an 0 0 (btB l sd) 0) hlt 0 (.int .u32 (an : Int)) rfl)
  clear hr2 hb2
  go_wp2_with fail
  generalize w2.setCell ⟨W.heap.size + 1, 0, none⟩ (.int .u32 (an : Int)) = w3 at H3 ⊢
  clear k0 f0 H2
  refine (G.out.2.2.1 w3 H3.out.rst).mono ?_
  rintro e w4 ⟨rfl, hr2, hb2⟩
  have H4 := Lib.hid (H3.out.call hlt hr2 hb2)
  have k0 := (boxS_heap H4.out.cur).2.1
  have f0 := free_block H4.out.cur 1
  have H5 := Lib.hid (H4.out.set (cf' := gC an bn 0 (btB l sd) 0) hlt 1 (.int .u8 (bn : Int)) rfl)
  clear hr2 hb2
  go_wp2_with fail
  generalize w4.setCell ⟨W.heap.size + 1, 1, none⟩ (.int .u8 (bn : Int)) = w5 at H5 ⊢
  clear k0 f0 H4
  refine (G.out.2.2.2 w5 H5.out.rst).mono ?_
  rintro e w6 ⟨rfl, hr2, hb2⟩
  have H6 := Lib.hid (H5.out.call hlt hr2 hb2)
  have k0 := (boxS_heap H6.out.cur).2.2.1
  have f0 := free_block H6.out.cur 2
  have H7 := Lib.hid (H6.out.set (cf' := gC an bn dn (btB l sd) 0) hlt 2 (.int .u8 (dn : Int)) rfl)
  clear hr2 hb2
  go_wp2_with fail
  generalize w6.setCell ⟨W.heap.size + 1, 2, none⟩ (.int .u8 (dn : Int)) = w7 at H7 ⊢
  clear k0 f0 H6
  go_loopw [17] (fun i wr => ∃ k : Nat, k ≤ 8 ∧ i = .int .i64 (k : Int) ∧ Gst W g A cp l (seqB l sd k) (gC an bn dn (btB l sd) k) wr) (fun i _ => 8 - (intOf i).toNat)
  case atStart => exact ⟨0, by omega, rfl, H7.out⟩
  case round =>
    obtain ⟨k, hk, rfl, hst⟩ := hrel
    have H := Lib.hid hst
    clear hst
    by_cases hlt2 : k < 8
    · have hby := rbyte_calls g A cp l (seqB l sd k) wr H.out.rst
      change Calls _ _ _ wr fun e W' => e = .returned (.int .u8 ((btB l sd k : Nat) : Int)) ∧ Rst g A cp l (seqB l sd (k + 1)) W' ∧ But g wr W' at hby
      have hbk := hbt k
      change btB l sd k < 256 at hbk
      have hset := gC_set an bn dn (btB l sd) k hlt2
      obtain ⟨x, hx⟩ : ∃ x, x = btB l sd k := ⟨_, rfl⟩
      rw [← hx] at hby hset hbk
      have HN := Lib.hid (And.intro hby hset)
      clear hby hset hx
      go_wp2_with fail
      refine HN.out.1.mono ?_
      rintro e w8 ⟨rfl, hr2, hb2⟩
      have H8 := Lib.hid (H.out.call hlt hr2 hb2)
      have k0 := cell_lt (k := k) H8.out.cur hlt2
      have f0 := free_block H8.out.cur (3 + k)
      have H9 := Lib.hid (H8.out.set hlt (3 + k) (.int .u8 (x : Int)) HN.out.2)
      clear hr2 hb2
      go_wp2_with fail
      go_roundw
      case rel => exact ⟨k + 1, by omega, by go_num, H9.out⟩
      case measure => (first | (simp [intOf]; done) | (simp [intOf]; omega))
    · obtain rfl : k = 8 := by omega
      obtain ⟨s8, hs8⟩ : ∃ s8, s8 = seqB l sd 8 := ⟨_, rfl⟩
      obtain ⟨c8, hc8⟩ : ∃ c8, c8 = gC an bn dn (btB l sd) 8 := ⟨_, rfl⟩
      rw [← hs8, ← hc8] at H
      have HE := Lib.hid (And.intro hs8 hc8)
      clear hs8 hc8
      have hf := fault_calls g A cp l s8 wr H.out.rst
      have HF := Lib.hid hf
      clear hf
      go_wp2_with fail
      refine HF.out.mono ?_
      rintro e w9 ⟨rfl, hb9⟩
      have H9 := Lib.hid (H.out.call hlt (H.out.rst.below hb9) (But.of_below hb9))
      clear hb9
      obtain ⟨z0, z1, z2, z3, z4, z5, z6, z7, z8, z9, z10⟩ := boxS_heap (c := Cf.zero) H9.out.zero
      have f0 := free_block H9.out.zero 0
      have f1 := free_block H9.out.zero 1
      have f2 := free_block H9.out.zero 2
      have f3 := free_block H9.out.zero 3
      have f4 := free_block H9.out.zero 4
      have f5 := free_block H9.out.zero 5
      have f6 := free_block H9.out.zero 6
      have f7 := free_block H9.out.zero 7
      have f8 := free_block H9.out.zero 8
      have f9 := free_block H9.out.zero 9
      have f10 := free_block H9.out.zero 10
      by_cases hz : s8.why = 0 ∧ s8.fat = 0
      · have hw0 : ((s8.why : Int) == 0) = true := by rw [hz.1]; rfl
        have hw1 : ((s8.fat : Int) == 0) = true := by rw [hz.2]; rfl
        have HZ := Lib.hid hz
        clear hz
        obtain ⟨k0, k1, k2, k3, k4, k5, k6, k7, k8, k9, k10⟩ := boxS_heap H9.out.cur
        go_wp2_with fail
        refine bodyPost_ret (v := .agg #[.int .u32 (c8.e : Int), .int .u8 (c8.r : Int), .int .u8 (c8.q : Int), .int .u8 (c8.v0 : Int), .int .u8 (c8.v1 : Int), .int .u8 (c8.v2 : Int), .int .u8 (c8.v3 : Int), .int .u8 (c8.v4 : Int), .int .u8 (c8.v5 : Int), .int .u8 (c8.v6 : Int), .int .u8 (c8.v7 : Int)]) (by simp [results, Tryd.results35, go_sem, z0, z1, z2, z3, z4, z5, z6, z7, z8, z9, z10]) rfl ⟨?_, ?_⟩
        · rw [HM.out, ← HE.out.1, if_pos HZ.out, ← HE.out.2]; rfl
        · rw [← HE.out.1]; exact set11 H9.out.rst H9.out.but hlt (Nat.le_refl _) _ _ _ _ _ _ _ _ _ _ _
      · have HZ := Lib.hid hz
        by_cases hy : s8.why = 0
        · have hw0 : ((s8.why : Int) == 0) = true := by rw [hy]; rfl
          have hw1 : ((s8.fat : Int) == 0) = false := by rw [beq_eq_false_iff_ne]; omega
          clear hz hy
          go_wp2_with fail
          refine bodyPost_ret (v := .agg #[.int .u32 0, .int .u8 0, .int .u8 0, .int .u8 0, .int .u8 0, .int .u8 0, .int .u8 0, .int .u8 0, .int .u8 0, .int .u8 0, .int .u8 0]) (by simp [results, Tryd.results35, go_sem, z0, z1, z2, z3, z4, z5, z6, z7, z8, z9, z10]) rfl ⟨?_, ?_⟩
          · rw [HM.out, ← HE.out.1, if_neg HZ.out]; rfl
          · rw [← HE.out.1]; exact set11 H9.out.rst H9.out.but hlt (Nat.le_refl _) _ _ _ _ _ _ _ _ _ _ _
        · have hw0 : ((s8.why : Int) == 0) = false := by rw [beq_eq_false_iff_ne]; omega
          clear hz hy
          go_wp2_with fail
          refine bodyPost_ret (v := .agg #[.int .u32 0, .int .u8 0, .int .u8 0, .int .u8 0, .int .u8 0, .int .u8 0, .int .u8 0, .int .u8 0, .int .u8 0, .int .u8 0, .int .u8 0]) (by simp [results, Tryd.results35, go_sem, z0, z1, z2, z3, z4, z5, z6, z7, z8, z9, z10]) rfl ⟨?_, ?_⟩
          · rw [HM.out, ← HE.out.1, if_neg HZ.out]; rfl
          · rw [← HE.out.1]; exact set11 H9.out.rst H9.out.but hlt (Nat.le_refl _) _ _ _ _ _ _ _ _ _ _ _
end Go.Proofs.YtcgbjodeklknoaaDoor.Vo
