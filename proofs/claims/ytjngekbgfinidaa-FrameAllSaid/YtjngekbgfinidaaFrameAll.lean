/- The walk of the law on many frames. -/
import Derived.Test.YtjngekbgfinidaaScanRef
import Derived.Test.YtjngekbgfinidaaFrameLaw3
namespace Go.Proofs.Ytjngekbgfinidaa.Fr
set_option linter.unusedVariables false
set_option linter.unusedSimpArgs false
open Go.RowKit
open Go.Proofs.Ytjngekbgfinidaa.Num Go.Proofs.Ytjngekbgfinidaa.Crc

/-- 'append(s, x...)' as one step of a region that draws its order. -/
theorem step_append8 {P : Program} {w : World} {ops : Array Oper} {o : Oper} {a : Act} {K : Act → World → Prop} {Q : Exit → Act → World → Prop} {E : Prop} (hgd : o.guard = none) (s x : Operand) (t : TypeId)
    (ho : o.op = .call { callee := .builtin .append, args := #[s, x], argTypes := #[t, t] }) (base : Nat) (T : TypeId) (ht : P.underlying t = some (.slice T))
    (hi : (P.info? T).map (fun i => (i.zero, i.size, i.bytes)) = some (some (.int .u8 0), 1, 1))
    (v : Value) (l m : List UInt8) (A : Option Addr) (c : Nat) (hs : a.eval s = v) (hown : Own8 w base T v l) (hx : a.eval x = .slice A m.length c) (hr : Row8 w A m) (hc : A = none → c = 0)
    (hlen : l.length + m.length ≤ 140737488355328) (hbase : base ≤ w.heap.size)
    (h : ∀ v' w', Own8 w' base T v' (l ++ m) → w.grownBy w' v.ownBlock → K (a.put o.dst v') w') :
    if Region.wanted o (yielded ops a.tmps) = true then Oper.wp P o a w K Q else E := by
  have hw : Region.wanted o (yielded ops a.tmps) = true := by simp [Region.wanted, hgd]
  rw [if_pos hw]
  obtain ⟨i, hi0, hz0, hz1, hz2⟩ := info_parts hi
  cases A with
  | none =>
    have hm : m = [] := by
      rcases hr with h | ⟨x, hx, _⟩
      · exact h
      · simp at hx
    subst hm
    obtain rfl := hc rfl
    have hrun := run_append_owned_none (P := P) (w := w) base t o.type T i 1 ht hi0 v l.length (l.map v8) hown
    unfold Oper.wp
    simp [execOp, ho, resolve, invoke, builtin, hs, hx, hrun, Result.andThen]
    exact h v w (by rw [List.append_nil]; exact hown) ⟨rfl, rfl, rfl, Nat.le_refl _, fun _ _ _ => rfl⟩
  | some ad =>
    refine wp_append_own w s x t ho base T i (.int .u8 0) 1 1 ht hi0 hz0 hz1 hz2 rfl (by omega) v l.length (l.map v8) hs hown ad m.length c (m.map v8) hx (by simp) ?_ ?_ (by unfold maxLen; omega) (by omega) hbase ?_
    · intro j u hu
      rcases hr with rfl | ⟨x, hx, hcell⟩
      · simp at hu
      · obtain rfl := Option.some.inj hx
        have hj : j < m.length := by
          have := (List.getElem?_eq_some_iff.1 hu).1
          simpa using this
        rw [hcell j hj]
        simp [hj, v8] at hu
        rw [← hu]
    · intro u hu
      obtain ⟨x, _, rfl⟩ := List.mem_map.1 hu
      rfl
    · intro v' w' h1 h2 _
      refine h v' w' ?_ h2
      unfold Own8
      rw [List.length_append, List.map_append]
      exact h1

/-- Frames, one behind the other. -/
def frames (L : List (List UInt8)) : List UInt8 := L.flatMap frame
theorem frames_snoc (L : List (List UInt8)) (m : List UInt8) : frames (L ++ [m]) = frames L ++ frame m := by
  unfold frames; rw [List.flatMap_append]; simp
theorem len_frames_le (L : List (List UInt8)) (hL : ∀ m ∈ L, m.length ≤ 150) : (frames L).length ≤ 158 * L.length := by
  induction L with
  | nil => simp [frames]
  | cons m L ih =>
    have h1 := ih (fun x hx => hL x (List.mem_cons_of_mem _ hx))
    have h2 := hL m List.mem_cons_self
    unfold frames at h1 ⊢
    rw [List.flatMap_cons, List.length_append, length_frame, List.length_cons]
    omega
theorem scanF_frames (L : List (List UInt8)) (hL : ∀ m ∈ L, m.length ≤ 150) (r : List UInt8) (hr : (nextF r).2.2 ≠ 0) (f : Nat) (hf : L.length ≤ f) : scanF f (frames L ++ r) = (L, (frames L).length, (nextF r).2.2) := by
  induction L generalizing f with
  | nil => unfold frames; rw [List.flatMap_nil, List.nil_append, scanF_stop f r hr]; rfl
  | cons m L ih =>
    cases f with
    | zero => simp at hf
    | succ f =>
      have h2 := hL m List.mem_cons_self
      have e : frames (m :: L) ++ r = frame m ++ (frames L ++ r) := by unfold frames; rw [List.flatMap_cons, List.append_assoc]
      have hx := nextF_frame m (frames L ++ r) (by omega)
      have hd : (frame m ++ (frames L ++ r)).drop (8 + m.length) = frames L ++ r := by
        rw [← length_frame m]; exact List.drop_left
      have hi := ih (fun x hx => hL x (List.mem_cons_of_mem _ hx)) f (by simpa using hf)
      rw [e, scanF, hx]
      simp only [ne_eq, not_true_eq_false, if_false, hd, hi]
      unfold frames
      rw [List.flatMap_cons, List.length_append, length_frame]
theorem frames_len_ge (L : List (List UInt8)) : L.length ≤ (frames L).length := by
  induction L with
  | nil => simp
  | cons m L ih => unfold frames at ih ⊢; rw [List.flatMap_cons, List.length_append, length_frame, List.length_cons]; omega
theorem allF_frames (L : List (List UInt8)) (hL : ∀ m ∈ L, m.length ≤ 150) : allF (frames L) = (L, 0) := by
  have h := scanF_frames L hL [] (by simp [nextF, sizeF]) (frames L).length (frames_len_ge L)
  rw [List.append_nil] at h
  unfold allF
  rw [h, if_neg (by simp)]
theorem scanF_cut (L : List (List UInt8)) (hL : ∀ m ∈ L, m.length ≤ 150) (last : List UInt8) (hl : last.length ≤ 4096) (k : Nat) (hk : k < 8 + last.length) :
    scanF (frames L ++ (frame last).take k).length (frames L ++ (frame last).take k) = (L, (frames L).length, 4) := by
  have hc := nextF_cut last hl k hk
  have h := scanF_frames L hL ((frame last).take k) (by rw [hc]; simp) (frames L ++ (frame last).take k).length (by rw [List.length_append]; have := frames_len_ge L; omega)
  rw [h, hc]

theorem pubscan_own {w : World} {base : Nat} {v : Value} {l : List UInt8} (h : Own8 w base 5 v l) (hm : l.length ≤ 1000000) :
    Calls Try.prog 19 #[v] w fun e w' => ∃ v ps, e = .returned (.tuple #[v, .int .i64 ((scanF l.length l).2.1 : Int)]) ∧ OwnL w' w.heap.size v ps ∧ bytesOf ps = (scanF l.length l).1 ∧ Below w.heap.size w w' := by
  obtain ⟨A, c, rfl, hr, hc, hcm, _⟩ := h.row
  exact pubscan_calls A c l w hr hc hcm hm
theorem pubscan_own' {w : World} {base : Nat} {v : Value} {l : List UInt8} (h : Own8 w base 5 v ([] ++ l)) (hm : l.length ≤ 1000000) (B : List (List UInt8)) (K e2 : Nat) (hs : scanF l.length l = (B, K, e2)) :
    Calls Try.prog 19 #[v] w fun e w' => ∃ v ps, e = .returned (.tuple #[v, .int .i64 (K : Int)]) ∧ OwnL w' w.heap.size v ps ∧ bytesOf ps = B ∧ Below w.heap.size w w' := by
  rw [List.nil_append] at h
  have := pubscan_own h hm
  rw [hs] at this
  exact this
set_option maxHeartbeats 1000000 in
set_option maxRecDepth 100000 in
theorem FrameAll_walk (a : Option Addr) (c : Nat) (ps : List (Option Addr × Nat × List UInt8)) (a2 : Option Addr) (c2 : Nat) (m : List UInt8) (at_ : Int) (w : World) (hp : Parts w a ps) (hcap : ∀ p ∈ ps, p.1 = none → p.2.1 = 0) (hpl : ps.length ≤ 9223372036854775807) (hr2 : Row8 w a2 m) (hn2 : a2 = none → c2 = 0) (hm : m.length ≤ 9223372036854775807) :
    Calls Try.prog 9 #[.slice a ps.length c, .slice a2 m.length c2, .int .i64 at_] w fun e w' => e = .returned (.bool true) ∧ Below w.heap.size w w' := by
  have G := Lib.hid (And.intro hp (And.intro hcap (And.intro hr2 hn2)))
  clear hp hcap hr2 hn2
  by_cases h40 : 40 < ps.length
  · go_enter Try.func9, Try.ntmps9
    go_wp2_with fail
    refine (alive_calls _).mono ?_
    rintro e w' ⟨rfl, hb⟩
    go_wp2_with fail
    go_ret
    exact ⟨rfl, hb⟩
  · go_enter Try.func9, Try.ntmps9
    go_wp2_with fail
    go_loopw [7, 24] (fun x i w' => ∃ k : Nat, k ≤ ps.length ∧ i = .int .i64 (k : Int) ∧ Own8 w' w.heap.size 5 x (frames (bytesOf (ps.take k))) ∧ (∀ b ∈ bytesOf (ps.take k), b.length ≤ 150) ∧ Below w.heap.size w w') (fun _ i _ => ps.length - (intOf i).toNat)
    case atStart => exact ⟨0, by omega, rfl, Own8.nil _ _ _, fun b hb => by simp [bytesOf] at hb, Below.refl _ _⟩
    case round =>
      obtain ⟨k, hk, rfl, hown, hall, hB⟩ := hrel
      have H := Lib.hid (And.intro hown (And.intro hall hB))
      clear hown hall hB
      by_cases hlt : k < ps.length
      · obtain ⟨x, rfl, hc⟩ : ∃ x, a = some x ∧ ∀ i : Nat, ∀ h : i < ps.length, wr.cell? (x.add i) = some (.slice ps[i].1 ps[i].2.2.length ps[i].2.1) ∧ Row8 wr ps[i].1 ps[i].2.2 ∧ ps[i].2.2.length ≤ 9223372036854775807 := by
          rcases parts_below G.out.1 H.out.2.2 with h | h
          · rw [h] at hlt; simp at hlt
          · exact h
        obtain ⟨c1, r1, hle1⟩ := hc k hlt
        have hn1 := G.out.2.1 ps[k] (List.getElem_mem hlt)
        clear hc
        obtain ⟨l1, e1⟩ : ∃ l1, l1 = ps[k].2.2 := ⟨_, rfl⟩
        obtain ⟨A1, e3⟩ : ∃ l1, l1 = ps[k].1 := ⟨_, rfl⟩
        obtain ⟨C1, e5⟩ : ∃ l1, l1 = ps[k].2.1 := ⟨_, rfl⟩
        rw [← e1, ← e3, ← e5] at c1
        rw [← e1] at hle1
        rw [← e1, ← e3] at r1
        rw [← e3, ← e5] at hn1
        have HE := Lib.hid (And.intro e1 (And.intro r1 hn1))
        clear e1 e3 e5 r1 hn1
        by_cases h150 : 150 < l1.length
        · go_wp2_with fail
          refine (alive_calls _).mono ?_
          rintro e w' ⟨rfl, hb⟩
          go_wp2_with fail
          go_ret
          exact ⟨rfl, H.out.2.2.trans (hb.mono H.out.2.2.size)⟩
        · obtain ⟨Ab, cb, rfl, hrb, hlb, hcb, hnb⟩ := H.out.1.row
          have hfl := len_frames_le _ H.out.2.1
          rw [len_bytesOf, List.length_take] at hfl
          obtain ⟨n, hn⟩ : ∃ n, n = (frames (bytesOf (ps.take k))).length := ⟨_, rfl⟩
          have hput := put_frame Ab A1 cb C1 (frames (bytesOf (ps.take k))) l1 wr hrb hnb (by omega) HE.out.2.1 HE.out.2.2 (by omega)
          rw [← hn] at hput ⊢
          have HP := Lib.hid hput
          clear hput hrb hlb hcb hnb hfl hn
          go_wp2_with fail
          refine HP.out.mono ?_
          rintro e w1 ⟨⟨v1, rfl, ho1⟩, hb1⟩
          have hz := H.out.2.2.size
          have H1 := Lib.hid (And.intro (ho1.mono hz) (H.out.2.2.trans (hb1.mono hz)))
          clear ho1 hb1
          go_wp2_with fail
          go_round
          case rel =>
            have e : bytesOf (ps.take (k + 1)) = bytesOf (ps.take k) ++ [l1] := by
              unfold bytesOf; rw [List.take_succ_eq_append_getElem hlt, List.map_append, HE.out.1]; rfl
            refine ⟨k + 1, by omega, by go_num, by rw [e, frames_snoc]; exact H1.out.1, ?_, H1.out.2⟩
            intro b hb
            rw [e, List.mem_append, List.mem_singleton] at hb
            rcases hb with hb | rfl
            · exact H.out.2.1 b hb
            · omega
          case measure => (first | (simp [intOf]; done) | (simp [intOf]; omega))
      · obtain rfl : k = ps.length := by omega
        rw [List.take_length] at H
        have hfl := len_frames_le _ H.out.2.1
        rw [len_bytesOf] at hfl
        go_wp2_with fail
        obtain ⟨F, hF⟩ : ∃ F, F = frames (bytesOf ps) := ⟨_, rfl⟩
        rw [← hF] at hfl
        have hF7 : F.length ≤ 7000 := by omega
        have hall := allF_frames _ H.out.2.1
        rw [← hF] at hall
        have hsc := scanF_cut _ H.out.2.1
        rw [← hF] at hsc
        have ho := H.out.1
        rw [← hF] at ho
        obtain ⟨Ab, cb, rfl, hrb, hlb, hcb, hnb⟩ := ho.row
        have hac := all_calls Ab cb F wr hrb hlb hcb (by omega)
        rw [hall] at hac
        have HA := Lib.hid (And.intro hac (And.intro hsc (And.intro hrb (And.intro hnb (And.intro hF7 H.out.2.2)))))
        clear hac hsc hrb hlb hcb hnb hall ho hfl hF7 hF H hlt hk
        refine HA.out.1.mono ?_
        rintro e w1 ⟨v1, p1, rfl, ho1, hp1, hb1⟩
        have hB1 := HA.out.2.2.2.2.2.trans (hb1.mono HA.out.2.2.2.2.2.size)
        obtain ⟨A1, c1, rfl, hparts, hpl1, hpl2⟩ := ho1.parts
        have hlc := lists_calls A1 c1 p1 a c ps w1 hparts (parts_below G.out.1 hB1) (by omega)
        rw [hp1, decide_eq_true rfl] at hlc
        have H1 := Lib.hid (And.intro hlc (And.intro hB1 (HA.out.2.2.1.below hb1)))
        clear hlc hB1 hparts hpl1 hpl2 ho1 hp1 hb1
        go_wp2_with fail
        refine H1.out.1.mono ?_
        rintro e w2 ⟨rfl, hb2⟩
        have H2 := Lib.hid (And.intro (H1.out.2.1.trans (hb2.mono H1.out.2.1.size)) (H1.out.2.2.below hb2))
        clear hb2
        by_cases h4 : 4096 < m.length
        · go_wp2_with fail
          refine (put_many none a2 0 c2 [] m h4 hm _).mono ?_
          rintro e w3 ⟨rfl, hb3⟩
          have H3 := Lib.hid (H2.out.1.trans (hb3.mono H2.out.1.size))
          clear hb3
          by_cases h6 : 6000 < m.length
          · go_wp2_with fail
            refine (long_calls _ _ _ _).mono ?_
            rintro e w' ⟨rfl, rfl⟩
            go_wp2_with fail
            refine (alive_calls _).mono ?_
            rintro e w4 ⟨rfl, hb4⟩
            go_wp2_with fail
            go_ret
            exact ⟨rfl, H3.out.trans (hb4.mono H3.out.size)⟩
          · go_wp2_with fail
            refine (long_calls _ _ _ _).mono ?_
            rintro e w' ⟨rfl, rfl⟩
            go_wp2_with fail
            refine (alive_calls _).mono ?_
            rintro e w4 ⟨rfl, hb4⟩
            go_wp2_with fail
            go_ret
            exact ⟨rfl, H3.out.trans (hb4.mono H3.out.size)⟩
        · have h6 : ¬ 6000 < m.length := by omega
          go_wp2_with fail
          refine (put_frame none a2 0 c2 [] m _ (.inl rfl) (fun _ => rfl) (by simp) (G.out.2.2.1.below H2.out.1) G.out.2.2.2 (by omega)).mono ?_
          rintro e w3 ⟨⟨v3, rfl, ho3⟩, hb3⟩
          rw [List.nil_append] at ho3
          have hB3 := H2.out.1.trans (hb3.mono H2.out.1.size)
          obtain ⟨X, hX⟩ : ∃ X, X = frame m := ⟨_, rfl⟩
          have hXl : X.length = 8 + m.length := by rw [hX, length_frame]
          rw [← hX] at ho3
          obtain ⟨A3, c3, rfl, hr3, hl3, hc3, hn3⟩ := ho3.row
          obtain ⟨k, hk, E⟩ := mod_in at_ (X.length : Int) (by omega) (by omega)
          have S1 := sl_hi (P := Try.prog) (t := 22) Try.underlying22 size8 A3 X.length c3 k (by omega)
          have hpx : ((X.length : Int) == 0) = false := by rw [beq_eq_false_iff_ne]; omega
          have hpx0 : ¬ (X.length : Int) = 0 := by omega
          have hsc2 := HA.out.2.1 m (by omega) k (by omega)
          rw [← hX] at hsc2
          have hkl : (X.take k).length = k := by rw [List.length_take]; omega
          have hz3 := hB3.size
          have H3 := Lib.hid (And.intro hB3 (And.intro (H2.out.2.below hb3) (And.intro (hr3.take k) (And.intro hn3 (And.intro hsc2 (And.intro hkl (And.intro hXl (show k ≤ 5000 by omega))))))))
          clear hB3 hb3 hr3 hl3 hc3 hn3 hsc2 hkl hXl hX ho3
          go_wp2_with fail
          refine (long_calls _ _ _ _).mono ?_
          rintro e w' ⟨rfl, rfl⟩
          go_wp2_with fail
          go_region_held3 (fun _ => True) (trivial) (first | (refine step_append8 (by rfl) _ (Operand.tmp 83) 22 (by rfl) w3.heap.size 5 Try.underlying22 info8 (.slice none 0 0) [] F Ab cb (by rfl) (Own8.nil _ _ _) (by rfl) (H3.out.2.1.below (by repeat (first | exact Below.refl _ _ | assumption | apply Below.drew | apply below_drewN | (refine Below.alloc ?_ (by first | (simp; done) | omega | (simp; omega)) _)))) HA.out.2.2.2.1 (by have := HA.out.2.2.2.2.1; simp; omega) (by simp) ?_; intro v4 w4 hown4 hg4; have H4 := Lib.hid (And.intro hown4 (grown_below (B := w3.heap.size) (w := w3) (by repeat (first | exact Below.refl _ _ | assumption | apply Below.drew | apply below_drewN | (refine Below.alloc ?_ (by first | (simp; done) | omega | (simp; omega)) _))) (by simp) (Own8.nil _ w3.heap.size 5) (Nat.le_refl _) hg4)); clear hown4 hg4) | (refine step_append8 (by rfl) (Operand.tmp 84) (Operand.tmp 87) 22 (by rfl) w3.heap.size 5 Try.underlying22 info8 v4 ([] ++ F) (X.take k) A3 c3 (by rfl) H4.out.1 (by rw [H3.out.2.2.2.2.2.1]; rfl) (H3.out.2.2.1.below H4.out.2) H3.out.2.2.2.1 (by have := HA.out.2.2.2.2.1; have := H3.out.2.2.2.2.2; simp; omega) H4.out.2.size ?_; intro v5 w5 hown5 hg5; have H5 := Lib.hid (And.intro hown5 (grown_below H4.out.2 H4.out.2.size H4.out.1 (Nat.le_refl _) hg5)); clear hown5 hg5) | (go_at_call 19; ((with_reducible refine (pubscan_own' (l := F ++ X.take k) (by have := H5.out.1; rwa [List.append_assoc] at this) (by have := HA.out.2.2.2.2.1; have := H3.out.2.2.2.2.2; simp; omega) _ _ _ H3.out.2.2.2.2.1).mono ?_); rintro e w6 ⟨v6, p6, rfl, ho6, hp6, hb6⟩)))
          obtain ⟨A6, c6, rfl, hparts6, hpl6, hpl7⟩ := ho6.parts
          have hB6 : Below w.heap.size w w6 := H3.out.1.trans ((H5.out.2.trans (hb6.mono H5.out.2.size)).mono H3.out.1.size)
          have hlc6 := lists_calls A6 c6 p6 a c ps w6 hparts6 (parts_below G.out.1 hB6) (by omega)
          rw [hp6, decide_eq_true rfl] at hlc6
          have H6 := Lib.hid (And.intro hlc6 hB6)
          clear hlc6 hB6 hparts6 hpl6 hpl7 ho6 hp6 hb6 S1 E hpx hpx0 hk
          go_wp2_with fail
          refine H6.out.1.mono ?_
          rintro e w7 ⟨rfl, hb7⟩
          have H7 := Lib.hid (H6.out.2.trans (hb7.mono H6.out.2.size))
          clear hb7
          go_wp2_with fail
          refine (alive_calls _).mono ?_
          rintro e w8 ⟨rfl, hb8⟩
          go_wp2_with fail
          go_ret
          exact ⟨rfl, H7.out.trans (hb8.mono H7.out.size)⟩
end Go.Proofs.Ytjngekbgfinidaa.Fr
