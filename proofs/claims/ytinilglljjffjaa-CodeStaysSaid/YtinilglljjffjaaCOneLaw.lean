/- The walk of the law: what is read without a fault is written as the same bytes. -/
import Derived.Test.YtinilglljjffjaaCOne
namespace Go.Proofs.Ytinilglljjffjaa.Cd
set_option linter.unusedVariables false
set_option linter.unusedSimpArgs false
open Go.RowKit
open Go.Proofs.Ytinilglljjffjaa.Num

theorem num_most (l : List UInt8) (s : Rs) : (fieldF 0 (readF 18446744073709551615) l s).1 < 18446744073709551616 := by
  unfold fieldF
  split
  · split
    · exact (long_fits _).1
    · exact (by decide : (0 : Nat) < 18446744073709551616)
  · exact (by decide : (0 : Nat) < 18446744073709551616)
theorem one_most (l : List UInt8) (s : Rs) : (fieldF 0 oneF l s).1 < 256 := by
  unfold fieldF
  split
  · split
    · cases l.drop s.at_ with
      | nil => exact (by decide : (0 : Nat) < 256)
      | cons x xs => exact x.toNat_lt
    · exact (by decide : (0 : Nat) < 256)
  · exact (by decide : (0 : Nat) < 256)
theorem text_most (most : Nat) (l : List UInt8) (s : Rs) : (fieldF [] (textR most) l s).1.length ≤ l.length := by
  unfold fieldF
  split
  · split
    · unfold textR textG
      split
      · split
        · exact Nat.zero_le _
        · simp only [List.length_take, List.length_drop]; omega
      · exact Nat.zero_le _
    · exact Nat.zero_le _
  · exact Nat.zero_le _
theorem key_eight (l : List UInt8) (s : Rs) : (fieldF zero8 keyR l s).1.length = 8 := by
  unfold fieldF
  split
  · split
    · exact keyR_len _
    · rfl
  · rfl
theorem fault_at (y f : Int) (w : World) : Sem.run Try.prog (Instr.field 43 (.agg #[.int .i64 y, .int .i64 f]) 1) w = .ok (.int .i64 f) w := by kernel_rfl
theorem mod_five (n : Nat) : (n : Int).tmod 5 = ((n % 5 : Nat) : Int) := by rw [Int.tmod_eq_emod_of_nonneg (by omega)]; omega
set_option maxHeartbeats 8000000 in
set_option maxRecDepth 100000 in
theorem CodeOne_walk (Ab : Option Addr) (cb : Nat) (l : List UInt8) (Ak : Option Addr) (ck : Nat) (ks : List UInt8) (W : World) (hb : Row8 W Ab l) (hl : l.length ≤ cb) (hcb : cb ≤ 9223372036854775807) (hk : Row8 W Ak ks) (hlk : ks.length ≤ 9223372036854775807) (hA : Ab = none → cb = 0) :
    Calls Try.prog 6 #[.slice Ab l.length cb, .slice Ak ks.length ck] W fun e W' => e = .returned (.bool true) ∧ Below W.heap.size W W' := by
  by_cases h1 : 65536 < l.length
  · have h1i : (65536 : Int) < (l.length : Int) := by omega
    clear hl hcb hb hk hlk h1
    go_enter Try.func6, Try.ntmps6
    go_wp2_with fail
    refine (alive_calls W).mono ?_
    rintro e w2 ⟨rfl, hb2⟩
    go_wp2_with fail
    go_ret
    exact ⟨rfl, hb2⟩
  · by_cases h2 : 300 < ks.length
    · have h1i : ¬ (65536 : Int) < (l.length : Int) := by omega
      have h2i : (300 : Int) < (ks.length : Int) := by omega
      clear hl hcb hb hk hlk h1 h2
      go_enter Try.func6, Try.ntmps6
      go_wp2_with fail
      refine (alive_calls W).mono ?_
      rintro e w2 ⟨rfl, hb2⟩
      go_wp2_with fail
      go_ret
      exact ⟨rfl, hb2⟩
    · have h1i : ¬ (65536 : Int) < (l.length : Int) := by omega
      have h2i : ¬ (300 : Int) < (ks.length : Int) := by omega
      have G := Lib.hid (And.intro hb (And.intro hk (And.intro hA hl)))
      clear hb hk hA hl hlk
      go_enter Try.func6, Try.ntmps6
      go_wp2_with fail
      refine (new_calls Ab cb l W G.out.1 G.out.2.2.1 (by omega)).mono ?_
      rintro e W1 ⟨gr, A5, c5, rfl, hr1, hb1, hgr⟩
      have hglt := (Array.getElem?_eq_some_iff.1 hr1.box).1
      have hbx : Boxed (W1.alloc (.cells #[.slice none 0 0] 27)) W1.heap.size 27 (.slice none 0 0) := Boxed.new W1 27 (.slice none 0 0)
      have hO : One W gr A5 c5 l W1.heap.size ⟨0, 0, 0⟩ (.slice none 0 0) [] (W1.alloc (.cells #[.slice none 0 0] 27)) := ⟨hr1.below (below_alloc1 _ _), ⟨hbx, Own8.nil _ _ _⟩, hb1.alloc hb1.size _⟩
      have HO := Lib.hid hO
      clear hO hbx hr1 hb1
      go_wp2_with fail
      generalize hgw : W1.heap.size = gw at HO hglt ⊢
      generalize W1.alloc (.cells #[.slice none 0 0] 27) = W2 at HO ⊢
      go_loopw [24] (fun i wr => ∃ (k a : Nat) (v : Value) (m : List UInt8), k ≤ ks.length ∧ i = .int .i64 (k : Int) ∧ m = l.take a ∧ One W gr A5 c5 l gw ⟨a, 0, 0⟩ v m wr) (fun i _ => ks.length - (intOf i).toNat)
      case atStart => exact ⟨0, 0, _, [], by omega, rfl, by simp, HO.out⟩
      case round =>
        obtain ⟨k, a, v, m, hkk, rfl, hm, hone⟩ := hrel
        have H := Lib.hid (And.intro hm hone)
        have hat := hone.rst.at_
        simp only at hat
        clear hm hone
        by_cases hlt : k < ks.length
        · obtain ⟨yk, rfl, hck⟩ : ∃ y, Ak = some y ∧ ∀ i : Nat, ∀ h : i < ks.length, wr.cell? (y.add i) = some (.int .u8 (ks[i].toNat : Int)) := by
            rcases G.out.2.1.below H.out.2.bel with h | h
            · rw [h] at hlt; simp at hlt
            · exact h
          have hc0 := hck k hlt
          obtain ⟨x, hx⟩ : ∃ x, x = ks[k].toNat := ⟨_, rfl⟩
          have hx256 : x < 256 := by rw [hx]; exact ks[k].toNat_lt
          rw [← hx] at hc0
          clear hck hx
          have hla : (l.take a).length = a := by rw [List.length_take]; omega
          have hml : m.length = a := by rw [H.out.1]; exact hla
          have hleft := left_calls gr A5 c5 l ⟨a, 0, 0⟩ wr H.out.2.rst
          have hlq : leftF l ⟨a, 0, 0⟩ = l.length - a := by unfold leftF; rw [if_pos ⟨rfl, rfl⟩]
          rw [hlq] at hleft
          obtain ⟨q, hq⟩ : ∃ q, q = l.length - a := ⟨_, rfl⟩
          rw [← hq] at hleft
          have hq1 : wrap64 ((l.length : Int) - (q : Int)) = (a : Int) := by unfold wrap64; omega
          have hq2 : (l.length : Int) - (q : Int) = (a : Int) := by omega
          have HL := Lib.hid hleft
          have hsh := fun w => sl_hi (P := Try.prog) (t := 25) Try.underlying25 size8 Ab l.length cb a (by have := G.out.2.2.2; omega) w
          clear hleft hlq hq
          go_wp2_with fail
          refine HL.out.mono ?_
          rintro e w4 ⟨rfl, hb4⟩
          have H4 := Lib.hid (H.out.2.below hb4)
          clear hb4
          go_wp2_with fail
          refine (bytes_calls gw gw v m w4 H4.out.wst (by omega) |> fun h => h).mono ?_
          rintro e w5 ⟨vw, rfl, ho5, hb5⟩
          have hown := ho5
          obtain ⟨Aw, cw, rfl, hrw, _, _, _⟩ := ho5.row
          have HW := Lib.hid (own_block hown)
          have HV := Lib.hid (fun k e => (H4.out.wst.own.lt k e).2)
          have hgw4 := H4.out.wst.box.lt
          have hgr4 := (Array.getElem?_eq_some_iff.1 H4.out.rst.box).1
          have H5 := Lib.hid (And.intro (H4.out.below hb5) hrw)
          clear ho5 hown hrw hb5
          have hj5 : x % 5 = 0 ∨ x % 5 = 1 ∨ x % 5 = 2 ∨ x % 5 = 3 ∨ x % 5 = 4 := by omega
          rcases hj5 with hj | hj | hj | hj | hj
          · have j1 : (x : Int).tmod 5 = 0 := by rw [mod_five, hj]; rfl
            have j2 : (x : Int) % 5 = 0 := by omega
            have hrd := rnum_calls gr A5 c5 l ⟨a, 0, 0⟩ 18446744073709551615 (by decide) w5 H5.out.1.rst
            have hft := field_two 0 (readF 18446744073709551615) short l m a H.out.1 (fun h => enc_num _ _ h)
            have hbd := num_most l ⟨a, 0, 0⟩
            obtain ⟨R, hR⟩ : ∃ R, R = fieldF 0 (readF 18446744073709551615) l ⟨a, 0, 0⟩ := ⟨_, rfl⟩
            rw [← hR] at hrd hft
            try rw [← hR] at hbd
            obtain ⟨rv, ⟨a', y', f'⟩⟩ := R
            simp only at hrd hft hbd
            have HB := Lib.hid hbd
            have HF := Lib.hid hft
            have HR := Lib.hid hrd
            clear hR hbd hft hrd hj
            go_wp2_with fail
            refine HR.out.mono ?_
            rintro e w6 ⟨rfl, hr6, hb6⟩
            have hs6 := hb6.size
            have H6 := Lib.hid (And.intro (H5.out.1.read hgr hglt hr6 hb6) (Row8.turn H5.out.2 hb6 (fun x hx => ⟨by have := (HW.out x hx).1; omega, by simp [Value.ownBlock]⟩)))
            clear hr6 hb6 HR j1 j2
            
            go_wp2_with fail
            refine (num_calls gw gw v m rv HB.out w6 H6.out.1.wst (Nat.le_refl _) (by omega)).mono ?_
            rintro e w7 ⟨rfl, v', hw7, ht7⟩
            have H7 := Lib.hid (And.intro (H6.out.1.wrote hgr hglt hw7 ht7) (Row8.turn H6.out.2 ht7 (fun x hx => ⟨by have := (HW.out x hx).1; omega, fun e => by have := HV.out _ e; have := (HW.out x hx).1; omega⟩)))
            clear hw7 ht7
            go_wp2_with fail
            refine (fault_calls gr A5 c5 l ⟨a', y', f'⟩ w7 H7.out.1.rst).mono ?_
            rintro e w8 ⟨rfl, hb8⟩
            have H8 := Lib.hid (And.intro (H7.out.1.below hb8) (H7.out.2.below hb8))
            clear hb8
            have hft := HF.out
            rcases hft with ⟨rfl, rfl, hm'⟩ | ⟨hy, rfl⟩
            · have HM := Lib.hid hm'
              clear hm'
              go_wp2_with fail
              go_roundw
              case rel => exact ⟨k + 1, a', v', _, by omega, by go_num, HM.out, H8.out.1⟩
              case measure => (first | (simp [intOf]; done) | (simp [intOf]; omega))
            · have hyy : ((y' : Int) == 0) = false := by rw [beq_eq_false_iff_ne]; omega
              have hfd := fault_at (y' : Int) (f' : Int)
              clear hy
              go_wp2_with fail
              refine (fault_calls gr A5 c5 l ⟨a', y', f'⟩ w8 H8.out.1.rst).mono ?_
              rintro e w9 ⟨rfl, hb9⟩
              have H9 := Lib.hid (And.intro (H8.out.1.below hb9) (H8.out.2.below hb9))
              clear hb9
              have hsm := same_calls Aw cw m Ab cb (l.take f') w9 H9.out.2 ((G.out.1.below H9.out.1.bel).take f')
              rw [hla, hml, decide_eq_true H.out.1] at hsm
              have HS := Lib.hid hsm
              clear hsm
              go_wp2_with fail
              refine HS.out.mono ?_
              rintro e w10 ⟨rfl, rfl⟩
              go_wp2_with fail
              refine (alive_calls w9).mono ?_
              rintro e w11 ⟨rfl, hb11⟩
              have hbe := H9.out.1.bel.trans (hb11.mono H9.out.1.bel.size)
              go_wp2_with fail
              go_ret
              exact ⟨rfl, hbe⟩
          · have j1 : (x : Int).tmod 5 = 1 := by rw [mod_five, hj]; rfl
            have j2 : (x : Int) % 5 = 1 := by omega
            have hrd := rbyte_calls gr A5 c5 l ⟨a, 0, 0⟩ w5 H5.out.1.rst
            have hft := field_two 0 oneF (fun n => [UInt8.ofNat n]) l m a H.out.1 (fun h => enc_one _ h)
            have hbd := one_most l ⟨a, 0, 0⟩
            obtain ⟨R, hR⟩ : ∃ R, R = fieldF 0 oneF l ⟨a, 0, 0⟩ := ⟨_, rfl⟩
            rw [← hR] at hrd hft
            try rw [← hR] at hbd
            obtain ⟨rv, ⟨a', y', f'⟩⟩ := R
            simp only at hrd hft hbd
            have HB := Lib.hid hbd
            have HF := Lib.hid hft
            have HR := Lib.hid hrd
            clear hR hbd hft hrd hj
            go_wp2_with fail
            refine HR.out.mono ?_
            rintro e w6 ⟨rfl, hr6, hb6⟩
            have hs6 := hb6.size
            have H6 := Lib.hid (And.intro (H5.out.1.read hgr hglt hr6 hb6) (Row8.turn H5.out.2 hb6 (fun x hx => ⟨by have := (HW.out x hx).1; omega, by simp [Value.ownBlock]⟩)))
            clear hr6 hb6 HR j1 j2
            have hv8 : (rv : Int) = ((UInt8.ofNat rv).toNat : Int) := by rw [UInt8.toNat_ofNat']; have := HB.out; omega
            rw [hv8]
            clear hv8
            go_wp2_with fail
            refine (byte_calls gw gw v m (UInt8.ofNat rv) w6 H6.out.1.wst (Nat.le_refl _) (by omega)).mono ?_
            rintro e w7 ⟨rfl, v', hw7, ht7⟩
            have H7 := Lib.hid (And.intro (H6.out.1.wrote hgr hglt hw7 ht7) (Row8.turn H6.out.2 ht7 (fun x hx => ⟨by have := (HW.out x hx).1; omega, fun e => by have := HV.out _ e; have := (HW.out x hx).1; omega⟩)))
            clear hw7 ht7
            go_wp2_with fail
            refine (fault_calls gr A5 c5 l ⟨a', y', f'⟩ w7 H7.out.1.rst).mono ?_
            rintro e w8 ⟨rfl, hb8⟩
            have H8 := Lib.hid (And.intro (H7.out.1.below hb8) (H7.out.2.below hb8))
            clear hb8
            have hft := HF.out
            rcases hft with ⟨rfl, rfl, hm'⟩ | ⟨hy, rfl⟩
            · have HM := Lib.hid hm'
              clear hm'
              go_wp2_with fail
              go_roundw
              case rel => exact ⟨k + 1, a', v', _, by omega, by go_num, HM.out, H8.out.1⟩
              case measure => (first | (simp [intOf]; done) | (simp [intOf]; omega))
            · have hyy : ((y' : Int) == 0) = false := by rw [beq_eq_false_iff_ne]; omega
              have hfd := fault_at (y' : Int) (f' : Int)
              clear hy
              go_wp2_with fail
              refine (fault_calls gr A5 c5 l ⟨a', y', f'⟩ w8 H8.out.1.rst).mono ?_
              rintro e w9 ⟨rfl, hb9⟩
              have H9 := Lib.hid (And.intro (H8.out.1.below hb9) (H8.out.2.below hb9))
              clear hb9
              have hsm := same_calls Aw cw m Ab cb (l.take f') w9 H9.out.2 ((G.out.1.below H9.out.1.bel).take f')
              rw [hla, hml, decide_eq_true H.out.1] at hsm
              have HS := Lib.hid hsm
              clear hsm
              go_wp2_with fail
              refine HS.out.mono ?_
              rintro e w10 ⟨rfl, rfl⟩
              go_wp2_with fail
              refine (alive_calls w9).mono ?_
              rintro e w11 ⟨rfl, hb11⟩
              have hbe := H9.out.1.bel.trans (hb11.mono H9.out.1.bel.size)
              go_wp2_with fail
              go_ret
              exact ⟨rfl, hbe⟩
          · have j1 : (x : Int).tmod 5 = 2 := by rw [mod_five, hj]; rfl
            have j2 : (x : Int) % 5 = 2 := by omega
            have hrd := rbool_calls gr A5 c5 l ⟨a, 0, 0⟩ w5 H5.out.1.rst
            have hft := field_two false truthF (fun b => [tF b]) l m a H.out.1 (fun h => enc_truth _ h)
            have hbd := True.intro
            obtain ⟨R, hR⟩ : ∃ R, R = fieldF false truthF l ⟨a, 0, 0⟩ := ⟨_, rfl⟩
            rw [← hR] at hrd hft
            try rw [← hR] at hbd
            obtain ⟨rv, ⟨a', y', f'⟩⟩ := R
            simp only at hrd hft hbd
            have HB := Lib.hid hbd
            have HF := Lib.hid hft
            have HR := Lib.hid hrd
            clear hR hbd hft hrd hj
            go_wp2_with fail
            refine HR.out.mono ?_
            rintro e w6 ⟨rfl, hr6, hb6⟩
            have hs6 := hb6.size
            have H6 := Lib.hid (And.intro (H5.out.1.read hgr hglt hr6 hb6) (Row8.turn H5.out.2 hb6 (fun x hx => ⟨by have := (HW.out x hx).1; omega, by simp [Value.ownBlock]⟩)))
            clear hr6 hb6 HR j1 j2
            
            go_wp2_with fail
            refine (bool_calls gw gw v m rv w6 H6.out.1.wst (Nat.le_refl _) (by omega)).mono ?_
            rintro e w7 ⟨rfl, v', hw7, ht7⟩
            have H7 := Lib.hid (And.intro (H6.out.1.wrote hgr hglt hw7 ht7) (Row8.turn H6.out.2 ht7 (fun x hx => ⟨by have := (HW.out x hx).1; omega, fun e => by have := HV.out _ e; have := (HW.out x hx).1; omega⟩)))
            clear hw7 ht7
            go_wp2_with fail
            refine (fault_calls gr A5 c5 l ⟨a', y', f'⟩ w7 H7.out.1.rst).mono ?_
            rintro e w8 ⟨rfl, hb8⟩
            have H8 := Lib.hid (And.intro (H7.out.1.below hb8) (H7.out.2.below hb8))
            clear hb8
            have hft := HF.out
            rcases hft with ⟨rfl, rfl, hm'⟩ | ⟨hy, rfl⟩
            · have HM := Lib.hid hm'
              clear hm'
              go_wp2_with fail
              go_roundw
              case rel => exact ⟨k + 1, a', v', _, by omega, by go_num, HM.out, H8.out.1⟩
              case measure => (first | (simp [intOf]; done) | (simp [intOf]; omega))
            · have hyy : ((y' : Int) == 0) = false := by rw [beq_eq_false_iff_ne]; omega
              have hfd := fault_at (y' : Int) (f' : Int)
              clear hy
              go_wp2_with fail
              refine (fault_calls gr A5 c5 l ⟨a', y', f'⟩ w8 H8.out.1.rst).mono ?_
              rintro e w9 ⟨rfl, hb9⟩
              have H9 := Lib.hid (And.intro (H8.out.1.below hb9) (H8.out.2.below hb9))
              clear hb9
              have hsm := same_calls Aw cw m Ab cb (l.take f') w9 H9.out.2 ((G.out.1.below H9.out.1.bel).take f')
              rw [hla, hml, decide_eq_true H.out.1] at hsm
              have HS := Lib.hid hsm
              clear hsm
              go_wp2_with fail
              refine HS.out.mono ?_
              rintro e w10 ⟨rfl, rfl⟩
              go_wp2_with fail
              refine (alive_calls w9).mono ?_
              rintro e w11 ⟨rfl, hb11⟩
              have hbe := H9.out.1.bel.trans (hb11.mono H9.out.1.bel.size)
              go_wp2_with fail
              go_ret
              exact ⟨rfl, hbe⟩
          · have j1 : (x : Int).tmod 5 = 3 := by rw [mod_five, hj]; rfl
            have j2 : (x : Int) % 5 = 3 := by omega
            have hrd := rtext_calls gr A5 c5 l ⟨a, 0, 0⟩ 65536 (by decide) (by decide) w5 H5.out.1.rst
            have hft := field_two [] (textR (65536 : Int).toNat) textF l m a H.out.1 (fun h => enc_text _ _ h)
            have hbd := text_most (65536 : Int).toNat l ⟨a, 0, 0⟩
            obtain ⟨R, hR⟩ : ∃ R, R = fieldF [] (textR (65536 : Int).toNat) l ⟨a, 0, 0⟩ := ⟨_, rfl⟩
            rw [← hR] at hrd hft
            try rw [← hR] at hbd
            obtain ⟨rv, ⟨a', y', f'⟩⟩ := R
            simp only at hrd hft hbd
            have HB := Lib.hid hbd
            have HF := Lib.hid hft
            have HR := Lib.hid hrd
            clear hR hbd hft hrd hj
            go_wp2_with fail
            refine HR.out.mono ?_
            rintro e w6 ⟨rfl, hr6, hb6⟩
            have hs6 := hb6.size
            have H6 := Lib.hid (And.intro (H5.out.1.read hgr hglt hr6 hb6) (Row8.turn H5.out.2 hb6 (fun x hx => ⟨by have := (HW.out x hx).1; omega, by simp [Value.ownBlock]⟩)))
            clear hr6 hb6 HR j1 j2
            
            go_wp2_with fail
            refine (text_calls gw gw v m rv w6 H6.out.1.wst (Nat.le_refl _) (by have := HB.out; omega)).mono ?_
            rintro e w7 ⟨rfl, v', hw7, ht7⟩
            have H7 := Lib.hid (And.intro (H6.out.1.wrote hgr hglt hw7 ht7) (Row8.turn H6.out.2 ht7 (fun x hx => ⟨by have := (HW.out x hx).1; omega, fun e => by have := HV.out _ e; have := (HW.out x hx).1; omega⟩)))
            clear hw7 ht7
            go_wp2_with fail
            refine (fault_calls gr A5 c5 l ⟨a', y', f'⟩ w7 H7.out.1.rst).mono ?_
            rintro e w8 ⟨rfl, hb8⟩
            have H8 := Lib.hid (And.intro (H7.out.1.below hb8) (H7.out.2.below hb8))
            clear hb8
            have hft := HF.out
            rcases hft with ⟨rfl, rfl, hm'⟩ | ⟨hy, rfl⟩
            · have HM := Lib.hid hm'
              clear hm'
              go_wp2_with fail
              go_roundw
              case rel => exact ⟨k + 1, a', v', _, by omega, by go_num, HM.out, H8.out.1⟩
              case measure => (first | (simp [intOf]; done) | (simp [intOf]; omega))
            · have hyy : ((y' : Int) == 0) = false := by rw [beq_eq_false_iff_ne]; omega
              have hfd := fault_at (y' : Int) (f' : Int)
              clear hy
              go_wp2_with fail
              refine (fault_calls gr A5 c5 l ⟨a', y', f'⟩ w8 H8.out.1.rst).mono ?_
              rintro e w9 ⟨rfl, hb9⟩
              have H9 := Lib.hid (And.intro (H8.out.1.below hb9) (H8.out.2.below hb9))
              clear hb9
              have hsm := same_calls Aw cw m Ab cb (l.take f') w9 H9.out.2 ((G.out.1.below H9.out.1.bel).take f')
              rw [hla, hml, decide_eq_true H.out.1] at hsm
              have HS := Lib.hid hsm
              clear hsm
              go_wp2_with fail
              refine HS.out.mono ?_
              rintro e w10 ⟨rfl, rfl⟩
              go_wp2_with fail
              refine (alive_calls w9).mono ?_
              rintro e w11 ⟨rfl, hb11⟩
              have hbe := H9.out.1.bel.trans (hb11.mono H9.out.1.bel.size)
              go_wp2_with fail
              go_ret
              exact ⟨rfl, hbe⟩
          · have j1 : (x : Int).tmod 5 = 4 := by rw [mod_five, hj]; rfl
            have j2 : (x : Int) % 5 = 4 := by omega
            have hrd := rkey_calls gr A5 c5 l ⟨a, 0, 0⟩ w5 H5.out.1.rst
            have hft := field_two zero8 keyR (fun k => k) l m a H.out.1 (fun h => enc_key _ h)
            have hbd := key_eight l ⟨a, 0, 0⟩
            obtain ⟨R, hR⟩ : ∃ R, R = fieldF zero8 keyR l ⟨a, 0, 0⟩ := ⟨_, rfl⟩
            rw [← hR] at hrd hft
            try rw [← hR] at hbd
            obtain ⟨rv, ⟨a', y', f'⟩⟩ := R
            simp only at hrd hft hbd
            have HB := Lib.hid hbd
            have HF := Lib.hid hft
            have HR := Lib.hid hrd
            clear hR hbd hft hrd hj
            go_wp2_with fail
            refine HR.out.mono ?_
            rintro e w6 ⟨rfl, hr6, hb6⟩
            have hs6 := hb6.size
            have H6 := Lib.hid (And.intro (H5.out.1.read hgr hglt hr6 hb6) (Row8.turn H5.out.2 hb6 (fun x hx => ⟨by have := (HW.out x hx).1; omega, by simp [Value.ownBlock]⟩)))
            clear hr6 hb6 HR j1 j2
            
            go_wp2_with fail
            refine (key_calls gw gw v m rv HB.out w6 H6.out.1.wst (Nat.le_refl _) (by omega)).mono ?_
            rintro e w7 ⟨rfl, v', hw7, ht7⟩
            have H7 := Lib.hid (And.intro (H6.out.1.wrote hgr hglt hw7 ht7) (Row8.turn H6.out.2 ht7 (fun x hx => ⟨by have := (HW.out x hx).1; omega, fun e => by have := HV.out _ e; have := (HW.out x hx).1; omega⟩)))
            clear hw7 ht7
            go_wp2_with fail
            refine (fault_calls gr A5 c5 l ⟨a', y', f'⟩ w7 H7.out.1.rst).mono ?_
            rintro e w8 ⟨rfl, hb8⟩
            have H8 := Lib.hid (And.intro (H7.out.1.below hb8) (H7.out.2.below hb8))
            clear hb8
            have hft := HF.out
            rcases hft with ⟨rfl, rfl, hm'⟩ | ⟨hy, rfl⟩
            · have HM := Lib.hid hm'
              clear hm'
              go_wp2_with fail
              go_roundw
              case rel => exact ⟨k + 1, a', v', _, by omega, by go_num, HM.out, H8.out.1⟩
              case measure => (first | (simp [intOf]; done) | (simp [intOf]; omega))
            · have hyy : ((y' : Int) == 0) = false := by rw [beq_eq_false_iff_ne]; omega
              have hfd := fault_at (y' : Int) (f' : Int)
              clear hy
              go_wp2_with fail
              refine (fault_calls gr A5 c5 l ⟨a', y', f'⟩ w8 H8.out.1.rst).mono ?_
              rintro e w9 ⟨rfl, hb9⟩
              have H9 := Lib.hid (And.intro (H8.out.1.below hb9) (H8.out.2.below hb9))
              clear hb9
              have hsm := same_calls Aw cw m Ab cb (l.take f') w9 H9.out.2 ((G.out.1.below H9.out.1.bel).take f')
              rw [hla, hml, decide_eq_true H.out.1] at hsm
              have HS := Lib.hid hsm
              clear hsm
              go_wp2_with fail
              refine HS.out.mono ?_
              rintro e w10 ⟨rfl, rfl⟩
              go_wp2_with fail
              refine (alive_calls w9).mono ?_
              rintro e w11 ⟨rfl, hb11⟩
              have hbe := H9.out.1.bel.trans (hb11.mono H9.out.1.bel.size)
              go_wp2_with fail
              go_ret
              exact ⟨rfl, hbe⟩
        · obtain rfl : k = ks.length := by omega
          have hla : (l.take a).length = a := by rw [List.length_take]; omega
          have hml : m.length = a := by rw [H.out.1]; exact hla
          have hleft := fun wr h => left_calls gr A5 c5 l ⟨a, 0, 0⟩ wr h
          have hlq : leftF l ⟨a, 0, 0⟩ = l.length - a := by unfold leftF; rw [if_pos ⟨rfl, rfl⟩]
          rw [hlq] at hleft
          obtain ⟨q, hq⟩ : ∃ q, q = l.length - a := ⟨_, rfl⟩
          rw [← hq] at hleft
          have hq1 : wrap64 ((l.length : Int) - (q : Int)) = (a : Int) := by unfold wrap64; omega
          have hq2 : (l.length : Int) - (q : Int) = (a : Int) := by omega
          have HL := Lib.hid hleft
          have hsh := fun w => sl_hi (P := Try.prog) (t := 25) Try.underlying25 size8 Ab l.length cb a (by have := G.out.2.2.2; omega) w
          clear hleft hlq hq
          go_wp2_with fail
          refine (bytes_calls gw gw v m wr H.out.2.wst (by omega)).mono ?_
          rintro e w5 ⟨vw, rfl, ho5, hb5⟩
          obtain ⟨Aw, cw, rfl, hrw, _, _, _⟩ := ho5.row
          have H5 := Lib.hid (And.intro (H.out.2.below hb5) hrw)
          clear ho5 hrw hb5
          go_wp2_with fail
          refine (HL.out w5 H5.out.1.rst).mono ?_
          rintro e w6 ⟨rfl, hb6⟩
          have H6 := Lib.hid (And.intro (H5.out.1.below hb6) (H5.out.2.below hb6))
          clear hb6
          have hsm := same_calls Aw cw m Ab cb (l.take a) w6 H6.out.2 ((G.out.1.below H6.out.1.bel).take a)
          rw [hla, hml, decide_eq_true H.out.1] at hsm
          have HS := Lib.hid hsm
          clear hsm
          go_wp2_with fail
          refine HS.out.mono ?_
          rintro e w10 ⟨rfl, rfl⟩
          go_wp2_with fail
          refine (alive_calls w6).mono ?_
          rintro e w11 ⟨rfl, hb11⟩
          have hbe := H6.out.1.bel.trans (hb11.mono H6.out.1.bel.size)
          go_wp2_with fail
          go_ret
          exact ⟨rfl, hbe⟩
end Go.Proofs.Ytinilglljjffjaa.Cd
