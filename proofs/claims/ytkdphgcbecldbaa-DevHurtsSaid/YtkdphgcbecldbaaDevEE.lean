/- The law DevHurts (8), walked. -/
import Derived.Test.YtkdphgcbecldbaaDevDD
namespace Go.Proofs.Ytkdphgcbecldbaa
open Go.RowKit
/-- what lay outside of a disk that has moved on -/
theorem Mv.out {w w' : World} {D D' : Dk} (h : Mv w D w' D') {b : Nat} (hb : b < w.heap.size) (hn : ¬ D.fp b) : w'.heap[b]? = w.heap[b]? ∧ ¬ D'.fp b :=
  ⟨h.1.block b hb hn, fun hf => (h.2.2.1 b hf).elim hn (by omega)⟩
set_option maxRecDepth 100000 in
set_option maxHeartbeats 4000000 in
theorem hurts_out (blocks n bit mask : Int) (A : Option Addr) (len c : Nat) (w : World) (h : blocks < 1 ∨ 40 < blocks ∨ 256 < len) :
    Calls Try.prog 8 #[.int .i64 blocks, .int .i64 n, .int .i64 bit, .int .u32 mask, .slice A len c] w fun r w' => r = .returned (.bool true) ∧ Gr w w' := by
  by_cases h1 : blocks < 1
  · go_enter Try.func8, Try.ntmps8
    go_wp2_with fail
    refine (awake_ok w).mono ?_
    rintro e w1 ⟨rfl, hg⟩
    go_wp2_with fail
    go_ret
    exact ⟨rfl, hg⟩
  · by_cases h2 : 40 < blocks
    · go_enter Try.func8, Try.ntmps8
      go_wp2_with fail
      refine (awake_ok w).mono ?_
      rintro e w1 ⟨rfl, hg⟩
      go_wp2_with fail
      go_ret
      exact ⟨rfl, hg⟩
    · have h3 : 256 < len := by omega
      have h4 : (256 : Int) < len := by omega
      have h5 : blocks ≤ 40 := by omega
      have h6 : 1 ≤ blocks := by omega
      clear h h1 h2
      go_enter Try.func8, Try.ntmps8
      go_wp2_with fail
      refine (awake_ok w).mono ?_
      rintro e w1 ⟨rfl, hg⟩
      go_wp2_with fail
      go_ret
      exact ⟨rfl, hg⟩
set_option maxRecDepth 100000 in
set_option maxHeartbeats 8000000 in
theorem hurts_in (k : Nat) (n bit : Int) (m : Nat) (A : Option Addr) (len c : Nat) (l : List Nat) (w : World) (hb : Bs w w.heap.size ⟨A, len, c⟩ l) (h1 : 1 ≤ k) (h2 : k ≤ 40) (h3 : len ≤ 256) (hm : m < 4294967296) :
    Calls Try.prog 8 #[.int .i64 k, .int .i64 n, .int .i64 bit, .int .u32 m, .slice A len c] w fun r w' => r = .returned (.bool true) ∧ Gr w w' := by
  have hl : l.length = len := hb.1.symm
  have hsm : Small l := hb.2.1
  have HPL : Hid ((pad l).length = 256) := pad_len (by omega)
  have HPS : Hid (Small (pad l)) := small_pad hsm
  have HB := Lib.hid hb
  clear hb hl hsm
  go_enter Try.func8, Try.ntmps8
  go_wp2_with fail
  refine (awake_ok w).mono ?_
  rintro e w1 ⟨rfl, hg⟩
  have HG := Lib.hid hg
  clear hg
  go_wp2_with fail
  refine (new_is k w1 h1 (by omega)).mono ?_
  rintro e w2 ⟨d, D, rfl, hdd, hg1, hd1, hf1, hI1⟩
  have HI1 := Lib.hid hI1
  have HU1 : Hid (Up w1.heap.size w1 w2 d D) := ⟨hd1, hdd, hf1, hg1, Nat.le_refl _⟩
  clear hd1 hI1 hg1 hf1 hdd
  go_wp2_with fail
  refine (pick_any n k w2 (by omega)).mono ?_
  rintro e w2 ⟨rfl, rfl⟩
  obtain ⟨kk, hkk, hk1⟩ : ∃ kk : Nat, pick n k = (kk : Int) ∧ kk < k := by
    have e : pick n k = n % k := if_neg (by omega)
    have b0 := Int.emod_nonneg n (show (k : Int) ≠ 0 by omega)
    have b1 := Int.emod_lt_of_pos n (show (0 : Int) < k by omega)
    exact ⟨(n % k).toNat, by rw [e]; omega, by omega⟩
  rw [hkk]
  clear hkk
  have HK := Lib.hid hk1
  clear hk1
  go_wp2_with fail
  have hbs : Bs w2 w.heap.size ⟨A, len, c⟩ l := (HB.out.below (HG.out.trans (HU1.out.gr.mono HG.out.size)) (Nat.le_refl _))
  have hc := write_is HI1.out kk A len c l w.heap.size w2 HU1.out.dsk hbs (Nat.le_trans HG.out.size HU1.out.gr.size) (fun hpos b o e hf => by
    have f1 := HU1.out.fp b hf
    have f2 := HG.out.size
    obtain ⟨b', o', e', hlt, _⟩ := HB.out.at_ hpos
    rw [e] at e'
    injection e' with e'
    injection e' with e'
    omega) HK.out (by omega) (by decide)
  rw [HU1.out.d] at hc
  refine hc.mono ?_
  clear hc hbs
  rintro e w3 ⟨rfl, D3, hm3, hI3⟩
  have HI3 := Lib.hid hI3
  have HU3 := Lib.hid (HU1.out.mv hm3)
  clear hm3 hI3 HU1 HI1
  go_wp2_with fail
  have hc := sync_is HI3.out _ HU3.out.dsk (by show 1 ≤ 1000000; decide)
  rw [HU3.out.d] at hc
  refine hc.mono ?_
  clear hc
  rintro e w4 ⟨rfl, D4, hm4, hI4⟩
  have hI4' : Is D4 k false (upd (fun _ => Z 256) kk (pad l)) (upd (fun _ => false) kk false) [] := hI4
  have HI4 := Lib.hid hI4'
  have HU4 := Lib.hid (HU3.out.mv hm4)
  clear hm4 hI4 HU3 HI3 hI4'
  go_wp2_with fail
  have hc := stored_is HI4.out kk _ HU4.out.dsk HK.out
  rw [HU4.out.d, upd_same] at hc
  refine hc.mono ?_
  clear hc
  rintro e w5 ⟨b0, hb0, hx0, rfl, hg5⟩
  have HN0 : Hid (¬ D4.fp b0) := fun hf => absurd (HU4.out.dsk.fp_lt hf) (by omega)
  have HX0 := Lib.hid hx0
  have HL0 : Hid (b0 < w5.heap.size) := (Array.getElem?_eq_some_iff.1 hx0).1
  have HU5 := Lib.hid (HU4.out.more hg5)
  clear hx0 hg5 hb0 HU4 HB
  generalize pad l = P at *
  by_cases hr : rotV P bit m = P
  · have HR := Lib.hid hr
    clear hr
    go_wp2_with fail
    have hc := rot_is_same HI4.out kk bit m w5 HU5.out.dsk HK.out hm (by rw [upd_same]; exact HR.out)
    rw [HU5.out.d] at hc
    refine hc.mono ?_
    clear hc
    rintro e w6 ⟨rfl, D7, hm6, hI6⟩
    have HI6 := Lib.hid hI6
    have HM6 := Lib.hid hm6
    clear hm6 hI6
    go_wp2_with fail
    have hc := stored_is HI6.out kk _ HM6.out.2.1 HK.out
    rw [HM6.out.d, HU5.out.d, upd_same] at hc
    refine hc.mono ?_
    clear hc
    rintro e w7 ⟨b1, hb1, hx1, rfl, hg7⟩
    have HX1 := Lib.hid hx1
    have HM7 := Lib.hid (HM6.out.trans (Mv.gr HM6.out.2.1 hg7))
    clear hx1 hg7 hb1 HM6
    go_wp2_with fail
    refine (same_told ((HM7.out.out HL0.out HN0.out).1.trans HX0.out) HX1.out HPS.out HPS.out HPL.out HPL.out).mono ?_
    rintro e w10 ⟨rfl, hg8⟩
    have HM10 := Lib.hid (HM7.out.trans (Mv.gr HM7.out.2.1 hg8))
    clear hg8 HM7
    rw [decide_eq_true rfl]
    go_wp2_with fail
    obtain ⟨blA, huA, hA, hT, hC⟩ : ∃ blA huA, Is D7 k false blA huA [] ∧ (∀ i, i ≠ kk → huA i = false) ∧ ((List.range k).filter huA).length = 0 :=
      ⟨_, _, HI6.out, fun i hi => upd_other _ _ hi, count_none (fun i => by
        by_cases e : i = kk
        · rw [e, upd_same]
        · rw [upd_other _ _ e]) k⟩
    clear HI6
    have HA := Lib.hid hA
    have hf50 := field50
    have HT := Lib.hid hT
    have HC := Lib.hid hC
    clear hA hT hC
    have hc := stat_is HA.out _ HM10.out.2.1
    rw [HM10.out.d, HU5.out.d, HC.out] at hc
    refine hc.mono ?_
    clear hc
    rintro e w11 ⟨t1, t2, rfl, hg11⟩
    have HM11 := Lib.hid (HM10.out.trans (Mv.gr HM10.out.2.1 hg11))
    clear hg11 HM10
    go_wp2_with fail
    have hx := (HM11.out.out HL0.out HN0.out).1.trans HX0.out
    have hbs := bs_cellsT hx HPS.out (by have := HPL.out; omega)
    rw [HPL.out] at hbs
    have hc := write_is HA.out kk (some ⟨b0, 0, none⟩) 256 256 P _ w11 HM11.out.2.1 hbs (Nat.le_refl _) (fun _ b o e hf => by
      injection e with e
      injection e with e
      subst e
      exact (HM11.out.out HL0.out HN0.out).2 hf) HK.out (by omega) (by decide)
    rw [HM11.out.d, HU5.out.d, pad_full HPL.out] at hc
    refine hc.mono ?_
    clear hc hx hbs
    rintro e w12 ⟨rfl, D8, hm12, hI12⟩
    have HI12 := Lib.hid hI12
    have HM12 := Lib.hid (HM11.out.trans hm12)
    clear hm12 hI12 HM11 HA
    go_wp2_with fail
    have hc := sync_is HI12.out _ HM12.out.2.1 (by show 1 ≤ 1000000; decide)
    rw [HM12.out.d, HU5.out.d] at hc
    refine hc.mono ?_
    clear hc
    rintro e w13 ⟨rfl, D9, hm13, hI13⟩
    have hI13' : Is D9 k false (upd blA kk P) (upd huA kk false) [] := hI13
    have HI13 := Lib.hid hI13'
    have HM13 := Lib.hid (HM12.out.trans hm13)
    have hZ : ∀ i, upd huA kk false i = false := fun i => by
      by_cases e : i = kk
      · rw [e, upd_same]
      · rw [upd_other _ _ e]; exact HT.out i e
    have HC0 := Lib.hid (count_none hZ k)
    clear hm13 hI13 hI13' HM12 HI12 hZ
    go_wp2_with fail
    have hc := stat_is HI13.out _ HM13.out.2.1
    rw [HM13.out.d, HU5.out.d, HC0.out] at hc
    refine hc.mono ?_
    clear hc
    rintro e w14 ⟨t3, t4, rfl, hg14⟩
    have HM14 := Lib.hid (HM13.out.trans (Mv.gr HM13.out.2.1 hg14))
    clear hg14 HM13
    go_wp2_with fail
    have hc := stored_is HI13.out kk _ HM14.out.2.1 HK.out
    rw [HM14.out.d, HU5.out.d, upd_same] at hc
    refine hc.mono ?_
    clear hc
    rintro e w15 ⟨b2, hb2, hx2, rfl, hg15⟩
    have HX2 := Lib.hid hx2
    have HM15 := Lib.hid (HM14.out.trans (Mv.gr HM14.out.2.1 hg15))
    clear hx2 hg15 hb2 HM14
    go_wp2_with fail
    refine (same_told HX2.out ((HM15.out.out HL0.out HN0.out).1.trans HX0.out) HPS.out HPS.out HPL.out HPL.out).mono ?_
    rintro e w16 ⟨rfl, hg16⟩
    have HM16 := Lib.hid (HM15.out.trans (Mv.gr HM15.out.2.1 hg16))
    clear hg16 HM15
    rw [decide_eq_true rfl]
    go_wp2_with fail
    have hmk : ∀ W : World, (Instr.makeSlice 24 (.int .i64 256) (.int .i64 256)).run Try.prog W = .ok (.slice (some ⟨W.heap.size, 0, none⟩) 256 256) (W.alloc (.cells (bvs (Z 256)).toArray 5)) := make24 256 (by decide)
    have HZS : Hid (Small (Z 256)) := small_zero 256
    have HZL : Hid ((Z 256).length = 256) := Z_len 256
    generalize hZX : (bvs (Z 256)).toArray = ZX at *
    have HZX := Lib.hid hZX
    clear hZX
    by_cases hz : Z 256 = P
    · have hc := wipe_is_same HI13.out kk _ HM16.out.2.1 HK.out (by rw [upd_same]; exact hz)
      rw [HM16.out.d, HU5.out.d] at hc
      refine hc.mono ?_
      clear hc
      rintro e w17 ⟨rfl, D10, hm17, hI17⟩
      have HI17 := Lib.hid hI17
      have HM17 := Lib.hid (HM16.out.trans hm17)
      have HZ := Lib.hid hz
      clear hm17 hI17 HM16 HI13 hz
      go_wp2_with fail
      refine (same_told (l1 := P) (l2 := Z 256) (t1 := 93) (t2 := 5) (gr_cells ((HM17.out.out HL0.out HN0.out).1.trans HX0.out) (Gr.at_alloc w17 _)) (by rw [HZX.out]; exact heap_alloc_new w17 _) HPS.out HZS.out HPL.out HZL.out).mono ?_
      rintro e w18 ⟨rfl, hg18⟩
      have HM18 := Lib.hid (HM17.out.trans (Mv.gr HM17.out.2.1 (Gr.step hg18 (Gr.at_alloc w17 _))))
      clear hg18 HM17
      rw [decide_eq_true HZ.out.symm]
      go_wp2_with fail
      have HS0 : Sx w5 D4 k false (upd blA kk P) (upd huA kk false) [] w18 := ⟨_, HM18.out, HI17.out⟩
      have HD4 : Hid (D4.d = d) := HU5.out.d
      have HZQ : Hid (P = Z 256) := HZ.out.symm
      have HS1 := Lib.hid (Sx.gr HS0 (Gr.drew w18))
      clear HS0
      refine wp_region_any (by kernel_rfl) ?_
      change wpAny _ _ _ _ _ _ _ (World.drew _)
      generalize w18.drew = wd at *
      refine wpAny_take (i := 0) (v := ?v0x1) rfl (by kernel_rfl) (by kernel_rfl) (by kernel_rfl) (fun _ _ _ h => h) (Or.inl ⟨by kernel_rfl, ?h0x1⟩) ?r0x1
      case h0x1 => (intro w; go_simp; try with_reducible rfl)
      refine wpAny_take (i := 1) (v := ?v1x2) rfl (by kernel_rfl) (by kernel_rfl) (by kernel_rfl) (fun _ _ _ h => h) (Or.inl ⟨by kernel_rfl, ?h1x2⟩) ?r1x2
      case h1x2 => (intro w; go_simp; try with_reducible rfl)
      refine wpAny_take (i := 2) (v := ?v2x3) rfl (by kernel_rfl) (by kernel_rfl) (by kernel_rfl) (fun _ _ _ h => h) (Or.inl ⟨by kernel_rfl, ?h2x3⟩) ?r2x3
      case h2x3 => (intro w; go_simp; try with_reducible rfl)
      refine wpAny_take (i := 3) (v := ?v3x4) rfl (by kernel_rfl) (by kernel_rfl) (by kernel_rfl) (fun _ _ _ h => h) (Or.inl ⟨by kernel_rfl, ?h3x4⟩) ?r3x4
      case h3x4 => (intro w; go_simp; try with_reducible rfl)
      refine wpAny_take (i := 4) (v := ?v4x5) rfl (by kernel_rfl) (by kernel_rfl) (by kernel_rfl) (fun _ _ _ h => h) (Or.inl ⟨by kernel_rfl, ?h4x5⟩) ?r4x5
      case h4x5 => (intro w; go_simp; try with_reducible rfl)
      refine wpAny_take (i := 5) (v := ?v5x6) rfl (by kernel_rfl) (by kernel_rfl) (by kernel_rfl) (fun _ _ _ h => h) (Or.inl ⟨by kernel_rfl, ?h5x6⟩) ?r5x6
      case h5x6 => (intro w; go_simp; try with_reducible rfl)
      refine wpAny_take (i := 6) (v := ?v6x7) rfl (by kernel_rfl) (by kernel_rfl) (by kernel_rfl) (fun _ _ _ h => h) (Or.inl ⟨by kernel_rfl, ?h6x7⟩) ?r6x7
      case h6x7 => (intro w; go_simp; try with_reducible rfl)
      refine wpAny_ready (rs := [7, 8]) (by kernel_rfl) (by simp) ?_
      refine AllReady.cons (o := { dst := some 130, op := Op.call { callee := Callee.value (Operand.func 29), args := #[Operand.tmp 128, Operand.tmp 129], argTypes := #[42, 3] }, type := 24, pos := _, after := _, guard := some (4, true) }) rfl (fun K hK => ?_) ?_
      · go_simp
        go_at_call 29
        refine (sx_stored HS1.out HK.out HD4.out).mono ?_
        rintro e wx ⟨bx, rfl, hx', hb'⟩
        rw [upd_same] at hx'
        go_simp
        refine hK _ _ ?_
        clear hK K
        have HXX0 := Lib.hid hx'
        have HS20 := Lib.hid (Sx.gr HS1.out hb')
        clear hx' hb'
        refine wpAny_ready (rs := [8]) (by kernel_rfl) (by simp) ?_
        refine AllReady.cons (o := { dst := some 131, op := Op.makeSlice 24 (Operand.const (Value.int IntKind.i64 256)) (Operand.const (Value.int IntKind.i64 256)), type := 24, pos := _, after := _, guard := some (4, true) }) rfl (fun K hK => ?_) ?_
        rotate_left
        exact AllReady.nil
        go_simp
        refine hK _ _ ?_
        clear hK K
        have HXX := Lib.hid (gr_cells HXX0.out (Gr.at_alloc wx (.cells ZX 5)))
        have HYY := Lib.hid (heap_alloc_new wx (.cells ZX 5))
        have HS2 := Lib.hid (Sx.gr HS20.out (Gr.at_alloc wx (.cells ZX 5)))
        refine wpAny_ready (rs := [9]) (by kernel_rfl) (by simp) ?_
        refine AllReady.cons (o := { dst := some 132, op := Op.call { callee := Callee.value (Operand.func 22), args := #[Operand.tmp 130, Operand.tmp 131], argTypes := #[24, 24] }, type := 4, pos := _, after := _, guard := some (4, true) }) rfl (fun K hK => ?_) ?_
        rotate_left
        exact AllReady.nil
        go_simp
        go_at_call 22
        refine (same_zz HXX.out HYY.out HZX.out HZQ.out).mono ?_
        rintro e wy ⟨rfl, hby⟩
        go_simp
        refine hK _ _ ?_
        clear hK K
        have HS3 := Lib.hid (Sx.gr HS2.out hby)
        clear hby
        refine wpAny_take (i := 10) (v := ?v10x8) rfl (by kernel_rfl) (by kernel_rfl) (by kernel_rfl) (fun _ _ _ h => h) (Or.inl ⟨by kernel_rfl, ?h10x8⟩) ?r10x8
        case h10x8 => (intro w; go_simp; try with_reducible rfl)
        refine wpAny_take (i := 11) (v := ?v11x9) rfl (by kernel_rfl) (by kernel_rfl) (by kernel_rfl) (fun _ _ _ h => h) (Or.inl ⟨by kernel_rfl, ?h11x9⟩) ?r11x9
        case h11x9 => (intro w; go_simp; try with_reducible rfl)
        refine wpAny_take (i := 12) (v := ?v12x10) rfl (by kernel_rfl) (by kernel_rfl) (by kernel_rfl) (fun _ _ _ h => h) (Or.inl ⟨by kernel_rfl, ?h12x10⟩) ?r12x10
        case h12x10 => (intro w; go_simp; try with_reducible rfl)
        refine wpAny_take (i := 13) (v := ?v13x11) rfl (by kernel_rfl) (by kernel_rfl) (by kernel_rfl) (fun _ _ _ h => h) (Or.inl ⟨by kernel_rfl, ?h13x11⟩) ?r13x11
        case h13x11 => (intro w; go_simp; try with_reducible rfl)
        refine wpAny_take (i := 14) (v := undef) rfl (by kernel_rfl) (by kernel_rfl) (by kernel_rfl) (fun _ _ _ h => h) (Or.inr ⟨by kernel_rfl, rfl⟩) ?_
        refine wpAny_take (i := 15) (v := undef) rfl (by kernel_rfl) (by kernel_rfl) (by kernel_rfl) (fun _ _ _ h => h) (Or.inr ⟨by kernel_rfl, rfl⟩) ?_
        refine wpAny_take (i := 16) (v := undef) rfl (by kernel_rfl) (by kernel_rfl) (by kernel_rfl) (fun _ _ _ h => h) (Or.inr ⟨by kernel_rfl, rfl⟩) ?_
        refine wpAny_take (i := 17) (v := undef) rfl (by kernel_rfl) (by kernel_rfl) (by kernel_rfl) (fun _ _ _ h => h) (Or.inr ⟨by kernel_rfl, rfl⟩) ?_
        refine wpAny_take (i := 18) (v := undef) rfl (by kernel_rfl) (by kernel_rfl) (by kernel_rfl) (fun _ _ _ h => h) (Or.inr ⟨by kernel_rfl, rfl⟩) ?_
        refine wpAny_take (i := 19) (v := undef) rfl (by kernel_rfl) (by kernel_rfl) (by kernel_rfl) (fun _ _ _ h => h) (Or.inr ⟨by kernel_rfl, rfl⟩) ?_
        refine wpAny_take (i := 20) (v := undef) rfl (by kernel_rfl) (by kernel_rfl) (by kernel_rfl) (fun _ _ _ h => h) (Or.inr ⟨by kernel_rfl, rfl⟩) ?_
        refine wpAny_take (i := 21) (v := undef) rfl (by kernel_rfl) (by kernel_rfl) (by kernel_rfl) (fun _ _ _ h => h) (Or.inr ⟨by kernel_rfl, rfl⟩) ?_
        refine wpAny_take (i := 22) (v := undef) rfl (by kernel_rfl) (by kernel_rfl) (by kernel_rfl) (fun _ _ _ h => h) (Or.inr ⟨by kernel_rfl, rfl⟩) ?_
        refine wpAny_take (i := 23) (v := undef) rfl (by kernel_rfl) (by kernel_rfl) (by kernel_rfl) (fun _ _ _ h => h) (Or.inr ⟨by kernel_rfl, rfl⟩) ?_
        have HSE := HS3
        refine wpAny_take (i := 24) (v := ?v24x12) rfl (by kernel_rfl) (by kernel_rfl) (by kernel_rfl) (fun _ _ _ h => h) (Or.inl ⟨by kernel_rfl, ?h24x12⟩) ?r24x12
        case h24x12 => (intro w; go_simp; try with_reducible rfl)
        refine wpAny_take (i := 25) (v := ?v25x13) rfl (by kernel_rfl) (by kernel_rfl) (by kernel_rfl) (fun _ _ _ h => h) (Or.inl ⟨by kernel_rfl, ?h25x13⟩) ?r25x13
        case h25x13 => (intro w; go_simp; try with_reducible rfl)
        refine wpAny_take (i := 26) (v := ?v26x14) rfl (by kernel_rfl) (by kernel_rfl) (by kernel_rfl) (fun _ _ _ h => h) (Or.inl ⟨by kernel_rfl, ?h26x14⟩) ?r26x14
        case h26x14 => (intro w; go_simp; try with_reducible rfl)
        refine wpAny_done (by kernel_rfl) ?_ _
        go_wp2_with fail
        go_ret
        obtain ⟨DE, hE1, _⟩ := HSE.out
        refine ⟨?_, HG.out.trans ((HU5.out.mv hE1).gr.mono HG.out.size)⟩
        kernel_rfl
      refine AllReady.cons (o := { dst := some 131, op := Op.makeSlice 24 (Operand.const (Value.int IntKind.i64 256)) (Operand.const (Value.int IntKind.i64 256)), type := 24, pos := _, after := _, guard := some (4, true) }) rfl (fun K hK => ?_) ?_
      · go_simp
        refine hK _ _ ?_
        clear hK K
        have HYY0 := Lib.hid (heap_alloc_new wd (.cells ZX 5))
        have HS20 := Lib.hid (Sx.gr HS1.out (Gr.at_alloc wd (.cells ZX 5)))
        refine wpAny_ready (rs := [7]) (by kernel_rfl) (by simp) ?_
        refine AllReady.cons (o := { dst := some 130, op := Op.call { callee := Callee.value (Operand.func 29), args := #[Operand.tmp 128, Operand.tmp 129], argTypes := #[42, 3] }, type := 24, pos := _, after := _, guard := some (4, true) }) rfl (fun K hK => ?_) ?_
        rotate_left
        exact AllReady.nil
        go_simp
        go_at_call 29
        refine (sx_stored HS20.out HK.out HD4.out).mono ?_
        rintro e wx ⟨bx, rfl, hx', hb'⟩
        rw [upd_same] at hx'
        go_simp
        refine hK _ _ ?_
        clear hK K
        have HXX := Lib.hid hx'
        have HYY := Lib.hid (gr_cells HYY0.out hb')
        have HS2 := Lib.hid (Sx.gr HS20.out hb')
        clear hx' hb'
        refine wpAny_ready (rs := [9]) (by kernel_rfl) (by simp) ?_
        refine AllReady.cons (o := { dst := some 132, op := Op.call { callee := Callee.value (Operand.func 22), args := #[Operand.tmp 130, Operand.tmp 131], argTypes := #[24, 24] }, type := 4, pos := _, after := _, guard := some (4, true) }) rfl (fun K hK => ?_) ?_
        rotate_left
        exact AllReady.nil
        go_simp
        go_at_call 22
        refine (same_zz HXX.out HYY.out HZX.out HZQ.out).mono ?_
        rintro e wy ⟨rfl, hby⟩
        go_simp
        refine hK _ _ ?_
        clear hK K
        have HS3 := Lib.hid (Sx.gr HS2.out hby)
        clear hby
        refine wpAny_take (i := 10) (v := ?v10x15) rfl (by kernel_rfl) (by kernel_rfl) (by kernel_rfl) (fun _ _ _ h => h) (Or.inl ⟨by kernel_rfl, ?h10x15⟩) ?r10x15
        case h10x15 => (intro w; go_simp; try with_reducible rfl)
        refine wpAny_take (i := 11) (v := ?v11x16) rfl (by kernel_rfl) (by kernel_rfl) (by kernel_rfl) (fun _ _ _ h => h) (Or.inl ⟨by kernel_rfl, ?h11x16⟩) ?r11x16
        case h11x16 => (intro w; go_simp; try with_reducible rfl)
        refine wpAny_take (i := 12) (v := ?v12x17) rfl (by kernel_rfl) (by kernel_rfl) (by kernel_rfl) (fun _ _ _ h => h) (Or.inl ⟨by kernel_rfl, ?h12x17⟩) ?r12x17
        case h12x17 => (intro w; go_simp; try with_reducible rfl)
        refine wpAny_take (i := 13) (v := ?v13x18) rfl (by kernel_rfl) (by kernel_rfl) (by kernel_rfl) (fun _ _ _ h => h) (Or.inl ⟨by kernel_rfl, ?h13x18⟩) ?r13x18
        case h13x18 => (intro w; go_simp; try with_reducible rfl)
        refine wpAny_take (i := 14) (v := undef) rfl (by kernel_rfl) (by kernel_rfl) (by kernel_rfl) (fun _ _ _ h => h) (Or.inr ⟨by kernel_rfl, rfl⟩) ?_
        refine wpAny_take (i := 15) (v := undef) rfl (by kernel_rfl) (by kernel_rfl) (by kernel_rfl) (fun _ _ _ h => h) (Or.inr ⟨by kernel_rfl, rfl⟩) ?_
        refine wpAny_take (i := 16) (v := undef) rfl (by kernel_rfl) (by kernel_rfl) (by kernel_rfl) (fun _ _ _ h => h) (Or.inr ⟨by kernel_rfl, rfl⟩) ?_
        refine wpAny_take (i := 17) (v := undef) rfl (by kernel_rfl) (by kernel_rfl) (by kernel_rfl) (fun _ _ _ h => h) (Or.inr ⟨by kernel_rfl, rfl⟩) ?_
        refine wpAny_take (i := 18) (v := undef) rfl (by kernel_rfl) (by kernel_rfl) (by kernel_rfl) (fun _ _ _ h => h) (Or.inr ⟨by kernel_rfl, rfl⟩) ?_
        refine wpAny_take (i := 19) (v := undef) rfl (by kernel_rfl) (by kernel_rfl) (by kernel_rfl) (fun _ _ _ h => h) (Or.inr ⟨by kernel_rfl, rfl⟩) ?_
        refine wpAny_take (i := 20) (v := undef) rfl (by kernel_rfl) (by kernel_rfl) (by kernel_rfl) (fun _ _ _ h => h) (Or.inr ⟨by kernel_rfl, rfl⟩) ?_
        refine wpAny_take (i := 21) (v := undef) rfl (by kernel_rfl) (by kernel_rfl) (by kernel_rfl) (fun _ _ _ h => h) (Or.inr ⟨by kernel_rfl, rfl⟩) ?_
        refine wpAny_take (i := 22) (v := undef) rfl (by kernel_rfl) (by kernel_rfl) (by kernel_rfl) (fun _ _ _ h => h) (Or.inr ⟨by kernel_rfl, rfl⟩) ?_
        refine wpAny_take (i := 23) (v := undef) rfl (by kernel_rfl) (by kernel_rfl) (by kernel_rfl) (fun _ _ _ h => h) (Or.inr ⟨by kernel_rfl, rfl⟩) ?_
        have HSE := HS3
        refine wpAny_take (i := 24) (v := ?v24x19) rfl (by kernel_rfl) (by kernel_rfl) (by kernel_rfl) (fun _ _ _ h => h) (Or.inl ⟨by kernel_rfl, ?h24x19⟩) ?r24x19
        case h24x19 => (intro w; go_simp; try with_reducible rfl)
        refine wpAny_take (i := 25) (v := ?v25x20) rfl (by kernel_rfl) (by kernel_rfl) (by kernel_rfl) (fun _ _ _ h => h) (Or.inl ⟨by kernel_rfl, ?h25x20⟩) ?r25x20
        case h25x20 => (intro w; go_simp; try with_reducible rfl)
        refine wpAny_take (i := 26) (v := ?v26x21) rfl (by kernel_rfl) (by kernel_rfl) (by kernel_rfl) (fun _ _ _ h => h) (Or.inl ⟨by kernel_rfl, ?h26x21⟩) ?r26x21
        case h26x21 => (intro w; go_simp; try with_reducible rfl)
        refine wpAny_done (by kernel_rfl) ?_ _
        go_wp2_with fail
        go_ret
        obtain ⟨DE, hE1, _⟩ := HSE.out
        refine ⟨?_, HG.out.trans ((HU5.out.mv hE1).gr.mono HG.out.size)⟩
        kernel_rfl
      exact AllReady.nil
    · have hc := wipe_is_ok HI13.out kk _ HM16.out.2.1 HK.out (by rw [upd_same]; exact hz) (upd_same _ _ _)
      rw [HM16.out.d, HU5.out.d] at hc
      refine hc.mono ?_
      clear hc
      rintro e w17 ⟨rfl, D10, hm17, hI17⟩
      have HI17 := Lib.hid hI17
      have HM17 := Lib.hid (HM16.out.trans hm17)
      have HZ := Lib.hid hz
      clear hm17 hI17 HM16 HI13 hz
      go_wp2_with fail
      refine (same_told (l1 := P) (l2 := Z 256) (t1 := 93) (t2 := 5) (gr_cells ((HM17.out.out HL0.out HN0.out).1.trans HX0.out) (Gr.at_alloc w17 _)) (by rw [HZX.out]; exact heap_alloc_new w17 _) HPS.out HZS.out HPL.out HZL.out).mono ?_
      rintro e w18 ⟨rfl, hg18⟩
      have HM18 := Lib.hid (HM17.out.trans (Mv.gr HM17.out.2.1 (Gr.step hg18 (Gr.at_alloc w17 _))))
      clear hg18 HM17
      rw [decide_eq_false (fun e => HZ.out e.symm)]
      go_wp2_with fail
      have HS0 : Sx w5 D4 k false (upd (upd blA kk P) kk (Z 256)) (upd (upd huA kk false) kk true) [] w18 := ⟨_, HM18.out, HI17.out⟩
      have HD4 : Hid (D4.d = d) := HU5.out.d
      have HZQ : Hid (Z 256 = Z 256) := rfl
      have HS1 := Lib.hid (Sx.gr HS0 (Gr.drew w18))
      clear HS0
      refine wp_region_any (by kernel_rfl) ?_
      change wpAny _ _ _ _ _ _ _ (World.drew _)
      generalize w18.drew = wd at *
      refine wpAny_take (i := 0) (v := ?v0x22) rfl (by kernel_rfl) (by kernel_rfl) (by kernel_rfl) (fun _ _ _ h => h) (Or.inl ⟨by kernel_rfl, ?h0x22⟩) ?r0x22
      case h0x22 => (intro w; go_simp; try with_reducible rfl)
      refine wpAny_take (i := 1) (v := ?v1x23) rfl (by kernel_rfl) (by kernel_rfl) (by kernel_rfl) (fun _ _ _ h => h) (Or.inl ⟨by kernel_rfl, ?h1x23⟩) ?r1x23
      case h1x23 => (intro w; go_simp; try with_reducible rfl)
      refine wpAny_take (i := 2) (v := ?v2x24) rfl (by kernel_rfl) (by kernel_rfl) (by kernel_rfl) (fun _ _ _ h => h) (Or.inl ⟨by kernel_rfl, ?h2x24⟩) ?r2x24
      case h2x24 => (intro w; go_simp; try with_reducible rfl)
      refine wpAny_take (i := 3) (v := ?v3x25) rfl (by kernel_rfl) (by kernel_rfl) (by kernel_rfl) (fun _ _ _ h => h) (Or.inl ⟨by kernel_rfl, ?h3x25⟩) ?r3x25
      case h3x25 => (intro w; go_simp; try with_reducible rfl)
      refine wpAny_take (i := 4) (v := ?v4x26) rfl (by kernel_rfl) (by kernel_rfl) (by kernel_rfl) (fun _ _ _ h => h) (Or.inl ⟨by kernel_rfl, ?h4x26⟩) ?r4x26
      case h4x26 => (intro w; go_simp; try with_reducible rfl)
      refine wpAny_take (i := 5) (v := ?v5x27) rfl (by kernel_rfl) (by kernel_rfl) (by kernel_rfl) (fun _ _ _ h => h) (Or.inl ⟨by kernel_rfl, ?h5x27⟩) ?r5x27
      case h5x27 => (intro w; go_simp; try with_reducible rfl)
      refine wpAny_take (i := 6) (v := ?v6x28) rfl (by kernel_rfl) (by kernel_rfl) (by kernel_rfl) (fun _ _ _ h => h) (Or.inl ⟨by kernel_rfl, ?h6x28⟩) ?r6x28
      case h6x28 => (intro w; go_simp; try with_reducible rfl)
      refine wpAny_ready (rs := [7, 8]) (by kernel_rfl) (by simp) ?_
      refine AllReady.cons (o := { dst := some 130, op := Op.call { callee := Callee.value (Operand.func 29), args := #[Operand.tmp 128, Operand.tmp 129], argTypes := #[42, 3] }, type := 24, pos := _, after := _, guard := some (4, true) }) rfl (fun K hK => ?_) ?_
      · go_simp
        go_at_call 29
        refine (sx_stored HS1.out HK.out HD4.out).mono ?_
        rintro e wx ⟨bx, rfl, hx', hb'⟩
        rw [upd_same] at hx'
        go_simp
        refine hK _ _ ?_
        clear hK K
        have HXX0 := Lib.hid hx'
        have HS20 := Lib.hid (Sx.gr HS1.out hb')
        clear hx' hb'
        refine wpAny_ready (rs := [8]) (by kernel_rfl) (by simp) ?_
        refine AllReady.cons (o := { dst := some 131, op := Op.makeSlice 24 (Operand.const (Value.int IntKind.i64 256)) (Operand.const (Value.int IntKind.i64 256)), type := 24, pos := _, after := _, guard := some (4, true) }) rfl (fun K hK => ?_) ?_
        rotate_left
        exact AllReady.nil
        go_simp
        refine hK _ _ ?_
        clear hK K
        have HXX := Lib.hid (gr_cells HXX0.out (Gr.at_alloc wx (.cells ZX 5)))
        have HYY := Lib.hid (heap_alloc_new wx (.cells ZX 5))
        have HS2 := Lib.hid (Sx.gr HS20.out (Gr.at_alloc wx (.cells ZX 5)))
        refine wpAny_ready (rs := [9]) (by kernel_rfl) (by simp) ?_
        refine AllReady.cons (o := { dst := some 132, op := Op.call { callee := Callee.value (Operand.func 22), args := #[Operand.tmp 130, Operand.tmp 131], argTypes := #[24, 24] }, type := 4, pos := _, after := _, guard := some (4, true) }) rfl (fun K hK => ?_) ?_
        rotate_left
        exact AllReady.nil
        go_simp
        go_at_call 22
        refine (same_zz HXX.out HYY.out HZX.out HZQ.out).mono ?_
        rintro e wy ⟨rfl, hby⟩
        go_simp
        refine hK _ _ ?_
        clear hK K
        have HS3 := Lib.hid (Sx.gr HS2.out hby)
        clear hby
        refine wpAny_take (i := 10) (v := ?v10x29) rfl (by kernel_rfl) (by kernel_rfl) (by kernel_rfl) (fun _ _ _ h => h) (Or.inl ⟨by kernel_rfl, ?h10x29⟩) ?r10x29
        case h10x29 => (intro w; go_simp; try with_reducible rfl)
        refine wpAny_take (i := 11) (v := ?v11x30) rfl (by kernel_rfl) (by kernel_rfl) (by kernel_rfl) (fun _ _ _ h => h) (Or.inl ⟨by kernel_rfl, ?h11x30⟩) ?r11x30
        case h11x30 => (intro w; go_simp; try with_reducible rfl)
        refine wpAny_take (i := 12) (v := ?v12x31) rfl (by kernel_rfl) (by kernel_rfl) (by kernel_rfl) (fun _ _ _ h => h) (Or.inl ⟨by kernel_rfl, ?h12x31⟩) ?r12x31
        case h12x31 => (intro w; go_simp; try with_reducible rfl)
        refine wpAny_take (i := 13) (v := ?v13x32) rfl (by kernel_rfl) (by kernel_rfl) (by kernel_rfl) (fun _ _ _ h => h) (Or.inl ⟨by kernel_rfl, ?h13x32⟩) ?r13x32
        case h13x32 => (intro w; go_simp; try with_reducible rfl)
        refine wpAny_take (i := 14) (v := ?v14x33) rfl (by kernel_rfl) (by kernel_rfl) (by kernel_rfl) (fun _ _ _ h => h) (Or.inl ⟨by kernel_rfl, ?h14x33⟩) ?r14x33
        case h14x33 => (intro w; go_simp; try with_reducible rfl)
        refine wpAny_take (i := 15) (v := ?v15x34) rfl (by kernel_rfl) (by kernel_rfl) (by kernel_rfl) (fun _ _ _ h => h) (Or.inl ⟨by kernel_rfl, ?h15x34⟩) ?r15x34
        case h15x34 => (intro w; go_simp; try with_reducible rfl)
        refine wpAny_ready (rs := [16]) (by kernel_rfl) (by simp) ?_
        refine AllReady.cons (o := { dst := some 139, op := Op.call { callee := Callee.value (Operand.func 36), args := #[Operand.tmp 137, Operand.tmp 138], argTypes := #[42, 3] }, type := 27, pos := _, after := _, guard := some (13, false) }) rfl (fun K hK => ?_) ?_
        rotate_left
        exact AllReady.nil
        go_simp
        go_at_call 36
        refine (sx_wipe HS3.out HK.out HD4.out (upd_same _ _ _).symm).mono ?_
        rintro e wv ⟨rfl, hv⟩
        go_simp
        refine hK _ _ ?_
        clear hK K
        refine wpAny_take (i := 17) (v := ?v17x35) rfl (by kernel_rfl) (by kernel_rfl) (by kernel_rfl) (fun _ _ _ h => h) (Or.inl ⟨by kernel_rfl, ?h17x35⟩) ?r17x35
        case h17x35 => (intro w; go_simp; try with_reducible rfl)
        refine wpAny_take (i := 18) (v := ?v18x36) rfl (by kernel_rfl) (by kernel_rfl) (by kernel_rfl) (fun _ _ _ h => h) (Or.inl ⟨by kernel_rfl, ?h18x36⟩) ?r18x36
        case h18x36 => (intro w; go_simp; try with_reducible rfl)
        refine wpAny_take (i := 19) (v := ?v19x37) rfl (by kernel_rfl) (by kernel_rfl) (by kernel_rfl) (fun _ _ _ h => h) (Or.inl ⟨by kernel_rfl, ?h19x37⟩) ?r19x37
        case h19x37 => (intro w; go_simp; try with_reducible rfl)
        refine wpAny_take (i := 20) (v := ?v20x38) rfl (by kernel_rfl) (by kernel_rfl) (by kernel_rfl) (fun _ _ _ h => h) (Or.inl ⟨by kernel_rfl, ?h20x38⟩) ?r20x38
        case h20x38 => (intro w; go_simp; try with_reducible rfl)
        refine wpAny_ready (rs := [21]) (by kernel_rfl) (by simp) ?_
        refine AllReady.cons (o := { dst := some 144, op := Op.call { callee := Callee.value (Operand.func 35), args := #[Operand.tmp 142, Operand.tmp 143, Operand.const (Value.int IntKind.i64 9), Operand.const (Value.int IntKind.u32 1)], argTypes := #[42, 3, 3, 23] }, type := 27, pos := _, after := _, guard := some (18, true) }) rfl (fun K hK => ?_) ?_
        rotate_left
        exact AllReady.nil
        go_simp
        go_at_call 35
        refine (sx_rot hv HK.out HD4.out (upd_same _ _ _) (upd_same _ _ _)).mono ?_
        rintro e wE ⟨rfl, hE⟩
        go_simp
        refine hK _ _ ?_
        clear hK K
        have HSE := Lib.hid hE
        refine wpAny_take (i := 22) (v := ?v22x39) rfl (by kernel_rfl) (by kernel_rfl) (by kernel_rfl) (fun _ _ _ h => h) (Or.inl ⟨by kernel_rfl, ?h22x39⟩) ?r22x39
        case h22x39 => (intro w; go_simp; try with_reducible rfl)
        refine wpAny_take (i := 23) (v := ?v23x40) rfl (by kernel_rfl) (by kernel_rfl) (by kernel_rfl) (fun _ _ _ h => h) (Or.inl ⟨by kernel_rfl, ?h23x40⟩) ?r23x40
        case h23x40 => (intro w; go_simp; try with_reducible rfl)
        refine wpAny_take (i := 24) (v := ?v24x41) rfl (by kernel_rfl) (by kernel_rfl) (by kernel_rfl) (fun _ _ _ h => h) (Or.inl ⟨by kernel_rfl, ?h24x41⟩) ?r24x41
        case h24x41 => (intro w; go_simp; try with_reducible rfl)
        refine wpAny_take (i := 25) (v := ?v25x42) rfl (by kernel_rfl) (by kernel_rfl) (by kernel_rfl) (fun _ _ _ h => h) (Or.inl ⟨by kernel_rfl, ?h25x42⟩) ?r25x42
        case h25x42 => (intro w; go_simp; try with_reducible rfl)
        refine wpAny_take (i := 26) (v := ?v26x43) rfl (by kernel_rfl) (by kernel_rfl) (by kernel_rfl) (fun _ _ _ h => h) (Or.inl ⟨by kernel_rfl, ?h26x43⟩) ?r26x43
        case h26x43 => (intro w; go_simp; try with_reducible rfl)
        refine wpAny_done (by kernel_rfl) ?_ _
        go_wp2_with fail
        go_ret
        obtain ⟨DE, hE1, _⟩ := HSE.out
        refine ⟨?_, HG.out.trans ((HU5.out.mv hE1).gr.mono HG.out.size)⟩
        kernel_rfl
      refine AllReady.cons (o := { dst := some 131, op := Op.makeSlice 24 (Operand.const (Value.int IntKind.i64 256)) (Operand.const (Value.int IntKind.i64 256)), type := 24, pos := _, after := _, guard := some (4, true) }) rfl (fun K hK => ?_) ?_
      · go_simp
        refine hK _ _ ?_
        clear hK K
        have HYY0 := Lib.hid (heap_alloc_new wd (.cells ZX 5))
        have HS20 := Lib.hid (Sx.gr HS1.out (Gr.at_alloc wd (.cells ZX 5)))
        refine wpAny_ready (rs := [7]) (by kernel_rfl) (by simp) ?_
        refine AllReady.cons (o := { dst := some 130, op := Op.call { callee := Callee.value (Operand.func 29), args := #[Operand.tmp 128, Operand.tmp 129], argTypes := #[42, 3] }, type := 24, pos := _, after := _, guard := some (4, true) }) rfl (fun K hK => ?_) ?_
        rotate_left
        exact AllReady.nil
        go_simp
        go_at_call 29
        refine (sx_stored HS20.out HK.out HD4.out).mono ?_
        rintro e wx ⟨bx, rfl, hx', hb'⟩
        rw [upd_same] at hx'
        go_simp
        refine hK _ _ ?_
        clear hK K
        have HXX := Lib.hid hx'
        have HYY := Lib.hid (gr_cells HYY0.out hb')
        have HS2 := Lib.hid (Sx.gr HS20.out hb')
        clear hx' hb'
        refine wpAny_ready (rs := [9]) (by kernel_rfl) (by simp) ?_
        refine AllReady.cons (o := { dst := some 132, op := Op.call { callee := Callee.value (Operand.func 22), args := #[Operand.tmp 130, Operand.tmp 131], argTypes := #[24, 24] }, type := 4, pos := _, after := _, guard := some (4, true) }) rfl (fun K hK => ?_) ?_
        rotate_left
        exact AllReady.nil
        go_simp
        go_at_call 22
        refine (same_zz HXX.out HYY.out HZX.out HZQ.out).mono ?_
        rintro e wy ⟨rfl, hby⟩
        go_simp
        refine hK _ _ ?_
        clear hK K
        have HS3 := Lib.hid (Sx.gr HS2.out hby)
        clear hby
        refine wpAny_take (i := 10) (v := ?v10x44) rfl (by kernel_rfl) (by kernel_rfl) (by kernel_rfl) (fun _ _ _ h => h) (Or.inl ⟨by kernel_rfl, ?h10x44⟩) ?r10x44
        case h10x44 => (intro w; go_simp; try with_reducible rfl)
        refine wpAny_take (i := 11) (v := ?v11x45) rfl (by kernel_rfl) (by kernel_rfl) (by kernel_rfl) (fun _ _ _ h => h) (Or.inl ⟨by kernel_rfl, ?h11x45⟩) ?r11x45
        case h11x45 => (intro w; go_simp; try with_reducible rfl)
        refine wpAny_take (i := 12) (v := ?v12x46) rfl (by kernel_rfl) (by kernel_rfl) (by kernel_rfl) (fun _ _ _ h => h) (Or.inl ⟨by kernel_rfl, ?h12x46⟩) ?r12x46
        case h12x46 => (intro w; go_simp; try with_reducible rfl)
        refine wpAny_take (i := 13) (v := ?v13x47) rfl (by kernel_rfl) (by kernel_rfl) (by kernel_rfl) (fun _ _ _ h => h) (Or.inl ⟨by kernel_rfl, ?h13x47⟩) ?r13x47
        case h13x47 => (intro w; go_simp; try with_reducible rfl)
        refine wpAny_take (i := 14) (v := ?v14x48) rfl (by kernel_rfl) (by kernel_rfl) (by kernel_rfl) (fun _ _ _ h => h) (Or.inl ⟨by kernel_rfl, ?h14x48⟩) ?r14x48
        case h14x48 => (intro w; go_simp; try with_reducible rfl)
        refine wpAny_take (i := 15) (v := ?v15x49) rfl (by kernel_rfl) (by kernel_rfl) (by kernel_rfl) (fun _ _ _ h => h) (Or.inl ⟨by kernel_rfl, ?h15x49⟩) ?r15x49
        case h15x49 => (intro w; go_simp; try with_reducible rfl)
        refine wpAny_ready (rs := [16]) (by kernel_rfl) (by simp) ?_
        refine AllReady.cons (o := { dst := some 139, op := Op.call { callee := Callee.value (Operand.func 36), args := #[Operand.tmp 137, Operand.tmp 138], argTypes := #[42, 3] }, type := 27, pos := _, after := _, guard := some (13, false) }) rfl (fun K hK => ?_) ?_
        rotate_left
        exact AllReady.nil
        go_simp
        go_at_call 36
        refine (sx_wipe HS3.out HK.out HD4.out (upd_same _ _ _).symm).mono ?_
        rintro e wv ⟨rfl, hv⟩
        go_simp
        refine hK _ _ ?_
        clear hK K
        refine wpAny_take (i := 17) (v := ?v17x50) rfl (by kernel_rfl) (by kernel_rfl) (by kernel_rfl) (fun _ _ _ h => h) (Or.inl ⟨by kernel_rfl, ?h17x50⟩) ?r17x50
        case h17x50 => (intro w; go_simp; try with_reducible rfl)
        refine wpAny_take (i := 18) (v := ?v18x51) rfl (by kernel_rfl) (by kernel_rfl) (by kernel_rfl) (fun _ _ _ h => h) (Or.inl ⟨by kernel_rfl, ?h18x51⟩) ?r18x51
        case h18x51 => (intro w; go_simp; try with_reducible rfl)
        refine wpAny_take (i := 19) (v := ?v19x52) rfl (by kernel_rfl) (by kernel_rfl) (by kernel_rfl) (fun _ _ _ h => h) (Or.inl ⟨by kernel_rfl, ?h19x52⟩) ?r19x52
        case h19x52 => (intro w; go_simp; try with_reducible rfl)
        refine wpAny_take (i := 20) (v := ?v20x53) rfl (by kernel_rfl) (by kernel_rfl) (by kernel_rfl) (fun _ _ _ h => h) (Or.inl ⟨by kernel_rfl, ?h20x53⟩) ?r20x53
        case h20x53 => (intro w; go_simp; try with_reducible rfl)
        refine wpAny_ready (rs := [21]) (by kernel_rfl) (by simp) ?_
        refine AllReady.cons (o := { dst := some 144, op := Op.call { callee := Callee.value (Operand.func 35), args := #[Operand.tmp 142, Operand.tmp 143, Operand.const (Value.int IntKind.i64 9), Operand.const (Value.int IntKind.u32 1)], argTypes := #[42, 3, 3, 23] }, type := 27, pos := _, after := _, guard := some (18, true) }) rfl (fun K hK => ?_) ?_
        rotate_left
        exact AllReady.nil
        go_simp
        go_at_call 35
        refine (sx_rot hv HK.out HD4.out (upd_same _ _ _) (upd_same _ _ _)).mono ?_
        rintro e wE ⟨rfl, hE⟩
        go_simp
        refine hK _ _ ?_
        clear hK K
        have HSE := Lib.hid hE
        refine wpAny_take (i := 22) (v := ?v22x54) rfl (by kernel_rfl) (by kernel_rfl) (by kernel_rfl) (fun _ _ _ h => h) (Or.inl ⟨by kernel_rfl, ?h22x54⟩) ?r22x54
        case h22x54 => (intro w; go_simp; try with_reducible rfl)
        refine wpAny_take (i := 23) (v := ?v23x55) rfl (by kernel_rfl) (by kernel_rfl) (by kernel_rfl) (fun _ _ _ h => h) (Or.inl ⟨by kernel_rfl, ?h23x55⟩) ?r23x55
        case h23x55 => (intro w; go_simp; try with_reducible rfl)
        refine wpAny_take (i := 24) (v := ?v24x56) rfl (by kernel_rfl) (by kernel_rfl) (by kernel_rfl) (fun _ _ _ h => h) (Or.inl ⟨by kernel_rfl, ?h24x56⟩) ?r24x56
        case h24x56 => (intro w; go_simp; try with_reducible rfl)
        refine wpAny_take (i := 25) (v := ?v25x57) rfl (by kernel_rfl) (by kernel_rfl) (by kernel_rfl) (fun _ _ _ h => h) (Or.inl ⟨by kernel_rfl, ?h25x57⟩) ?r25x57
        case h25x57 => (intro w; go_simp; try with_reducible rfl)
        refine wpAny_take (i := 26) (v := ?v26x58) rfl (by kernel_rfl) (by kernel_rfl) (by kernel_rfl) (fun _ _ _ h => h) (Or.inl ⟨by kernel_rfl, ?h26x58⟩) ?r26x58
        case h26x58 => (intro w; go_simp; try with_reducible rfl)
        refine wpAny_done (by kernel_rfl) ?_ _
        go_wp2_with fail
        go_ret
        obtain ⟨DE, hE1, _⟩ := HSE.out
        refine ⟨?_, HG.out.trans ((HU5.out.mv hE1).gr.mono HG.out.size)⟩
        kernel_rfl
      exact AllReady.nil
  · have HR := Lib.hid hr
    clear hr
    go_wp2_with fail
    have hc := rot_is_ok HI4.out kk bit m w5 HU5.out.dsk HK.out hm (by rw [upd_same]; exact HR.out) (upd_same _ _ _)
    rw [HU5.out.d, upd_same] at hc
    refine hc.mono ?_
    clear hc
    rintro e w6 ⟨rfl, D5, hm6, hI6⟩
    have HI5 := Lib.hid hI6
    have HM6 := Lib.hid hm6
    have HQL : Hid ((rotV P bit m).length = 256) := rotV_len HPL.out _ _
    have HQS : Hid (Small (rotV P bit m)) := rotV_small HPS.out _ _
    have HQ1 : Hid (rotV (rotV P bit m) 0 1 ≠ rotV P bit m) := rotV_one HQL.out _ (by omega) (by omega)
    have HQ2 : Hid (rotV (rotV P bit m) bit m ≠ rotV P bit m) := fun e => HR.out (by rw [rotV_twice HPL.out HPS.out] at e; exact e.symm)
    have HQP : Hid (P ≠ rotV P bit m) := fun e => HR.out e.symm
    clear hm6 hI6
    generalize rotV P bit m = Q at *
    go_wp2_with fail
    have hc := stored_is HI5.out kk _ HM6.out.2.1 HK.out
    rw [HM6.out.d, HU5.out.d, upd_same] at hc
    refine hc.mono ?_
    clear hc
    rintro e w7 ⟨b1, hb1, hx1, rfl, hg7⟩
    have HX1 := Lib.hid hx1
    have HM7 := Lib.hid (HM6.out.trans (Mv.gr HM6.out.2.1 hg7))
    clear hx1 hg7 hb1 HM6
    go_wp2_with fail
    refine (same_told ((HM7.out.out HL0.out HN0.out).1.trans HX0.out) HX1.out HPS.out HQS.out HPL.out HQL.out).mono ?_
    rintro e w8 ⟨rfl, hg8⟩
    have HM8 := Lib.hid (HM7.out.trans (Mv.gr HM7.out.2.1 hg8))
    clear hg8 HM7
    rw [decide_eq_false HQP.out]
    go_wp2_with fail
    have hc := rot_is_hurt HI5.out kk 0 1 _ HM8.out.2.1 HK.out (by omega) (by rw [upd_same]; exact HQ1.out) (upd_same _ _ _)
    rw [HM8.out.d, HU5.out.d] at hc
    refine hc.mono ?_
    clear hc
    rintro e w9 ⟨rfl, D6, hm9, hI9⟩
    have HI9 := Lib.hid hI9
    have HM9 := Lib.hid (HM8.out.trans hm9)
    clear hm9 hI9 HM8
    go_wp2_with fail
    have hc := rot_is_hurt HI9.out kk bit m _ HM9.out.2.1 HK.out hm (by rw [upd_same]; exact HQ2.out) (upd_same _ _ _)
    rw [HM9.out.d, HU5.out.d] at hc
    refine hc.mono ?_
    clear hc
    rintro e w10 ⟨rfl, D7, hm10, hI10⟩
    have HI10 := Lib.hid hI10
    have HM10 := Lib.hid (HM9.out.trans hm10)
    clear hm10 hI10 HM9
    go_wp2_with fail
    obtain ⟨blA, huA, hA, hT, hC⟩ : ∃ blA huA, Is D7 k false blA huA [] ∧ (∀ i, i ≠ kk → huA i = false) ∧ ((List.range k).filter huA).length = 1 :=
      ⟨_, _, HI10.out, fun i hi => by rw [upd_other _ _ hi, upd_other _ _ hi], count_one (n := kk) (upd_same _ _ _) (fun i hi => by rw [upd_other _ _ hi, upd_other _ _ hi]) k HK.out⟩
    clear HI10
    have HA := Lib.hid hA
    have hf50 := field50
    have HT := Lib.hid hT
    have HC := Lib.hid hC
    clear hA hT hC
    have hc := stat_is HA.out _ HM10.out.2.1
    rw [HM10.out.d, HU5.out.d, HC.out] at hc
    refine hc.mono ?_
    clear hc
    rintro e w11 ⟨t1, t2, rfl, hg11⟩
    have HM11 := Lib.hid (HM10.out.trans (Mv.gr HM10.out.2.1 hg11))
    clear hg11 HM10
    go_wp2_with fail
    have hx := (HM11.out.out HL0.out HN0.out).1.trans HX0.out
    have hbs := bs_cellsT hx HPS.out (by have := HPL.out; omega)
    rw [HPL.out] at hbs
    have hc := write_is HA.out kk (some ⟨b0, 0, none⟩) 256 256 P _ w11 HM11.out.2.1 hbs (Nat.le_refl _) (fun _ b o e hf => by
      injection e with e
      injection e with e
      subst e
      exact (HM11.out.out HL0.out HN0.out).2 hf) HK.out (by omega) (by decide)
    rw [HM11.out.d, HU5.out.d, pad_full HPL.out] at hc
    refine hc.mono ?_
    clear hc hx hbs
    rintro e w12 ⟨rfl, D8, hm12, hI12⟩
    have HI12 := Lib.hid hI12
    have HM12 := Lib.hid (HM11.out.trans hm12)
    clear hm12 hI12 HM11 HA
    go_wp2_with fail
    have hc := sync_is HI12.out _ HM12.out.2.1 (by show 1 ≤ 1000000; decide)
    rw [HM12.out.d, HU5.out.d] at hc
    refine hc.mono ?_
    clear hc
    rintro e w13 ⟨rfl, D9, hm13, hI13⟩
    have hI13' : Is D9 k false (upd blA kk P) (upd huA kk false) [] := hI13
    have HI13 := Lib.hid hI13'
    have HM13 := Lib.hid (HM12.out.trans hm13)
    have hZ : ∀ i, upd huA kk false i = false := fun i => by
      by_cases e : i = kk
      · rw [e, upd_same]
      · rw [upd_other _ _ e]; exact HT.out i e
    have HC0 := Lib.hid (count_none hZ k)
    clear hm13 hI13 hI13' HM12 HI12 hZ
    go_wp2_with fail
    have hc := stat_is HI13.out _ HM13.out.2.1
    rw [HM13.out.d, HU5.out.d, HC0.out] at hc
    refine hc.mono ?_
    clear hc
    rintro e w14 ⟨t3, t4, rfl, hg14⟩
    have HM14 := Lib.hid (HM13.out.trans (Mv.gr HM13.out.2.1 hg14))
    clear hg14 HM13
    go_wp2_with fail
    have hc := stored_is HI13.out kk _ HM14.out.2.1 HK.out
    rw [HM14.out.d, HU5.out.d, upd_same] at hc
    refine hc.mono ?_
    clear hc
    rintro e w15 ⟨b2, hb2, hx2, rfl, hg15⟩
    have HX2 := Lib.hid hx2
    have HM15 := Lib.hid (HM14.out.trans (Mv.gr HM14.out.2.1 hg15))
    clear hx2 hg15 hb2 HM14
    go_wp2_with fail
    refine (same_told HX2.out ((HM15.out.out HL0.out HN0.out).1.trans HX0.out) HPS.out HPS.out HPL.out HPL.out).mono ?_
    rintro e w16 ⟨rfl, hg16⟩
    have HM16 := Lib.hid (HM15.out.trans (Mv.gr HM15.out.2.1 hg16))
    clear hg16 HM15
    rw [decide_eq_true rfl]
    go_wp2_with fail
    have hmk : ∀ W : World, (Instr.makeSlice 24 (.int .i64 256) (.int .i64 256)).run Try.prog W = .ok (.slice (some ⟨W.heap.size, 0, none⟩) 256 256) (W.alloc (.cells (bvs (Z 256)).toArray 5)) := make24 256 (by decide)
    have HZS : Hid (Small (Z 256)) := small_zero 256
    have HZL : Hid ((Z 256).length = 256) := Z_len 256
    generalize hZX : (bvs (Z 256)).toArray = ZX at *
    have HZX := Lib.hid hZX
    clear hZX
    by_cases hz : Z 256 = P
    · have hc := wipe_is_same HI13.out kk _ HM16.out.2.1 HK.out (by rw [upd_same]; exact hz)
      rw [HM16.out.d, HU5.out.d] at hc
      refine hc.mono ?_
      clear hc
      rintro e w17 ⟨rfl, D10, hm17, hI17⟩
      have HI17 := Lib.hid hI17
      have HM17 := Lib.hid (HM16.out.trans hm17)
      have HZ := Lib.hid hz
      clear hm17 hI17 HM16 HI13 hz
      go_wp2_with fail
      refine (same_told (l1 := P) (l2 := Z 256) (t1 := 93) (t2 := 5) (gr_cells ((HM17.out.out HL0.out HN0.out).1.trans HX0.out) (Gr.at_alloc w17 _)) (by rw [HZX.out]; exact heap_alloc_new w17 _) HPS.out HZS.out HPL.out HZL.out).mono ?_
      rintro e w18 ⟨rfl, hg18⟩
      have HM18 := Lib.hid (HM17.out.trans (Mv.gr HM17.out.2.1 (Gr.step hg18 (Gr.at_alloc w17 _))))
      clear hg18 HM17
      rw [decide_eq_true HZ.out.symm]
      go_wp2_with fail
      have HS0 : Sx w5 D4 k false (upd blA kk P) (upd huA kk false) [] w18 := ⟨_, HM18.out, HI17.out⟩
      have HD4 : Hid (D4.d = d) := HU5.out.d
      have HZQ : Hid (P = Z 256) := HZ.out.symm
      have HS1 := Lib.hid (Sx.gr HS0 (Gr.drew w18))
      clear HS0
      refine wp_region_any (by kernel_rfl) ?_
      change wpAny _ _ _ _ _ _ _ (World.drew _)
      generalize w18.drew = wd at *
      refine wpAny_take (i := 0) (v := ?v0y1) rfl (by kernel_rfl) (by kernel_rfl) (by kernel_rfl) (fun _ _ _ h => h) (Or.inl ⟨by kernel_rfl, ?h0y1⟩) ?r0y1
      case h0y1 => (intro w; go_simp; try with_reducible rfl)
      refine wpAny_take (i := 1) (v := ?v1y2) rfl (by kernel_rfl) (by kernel_rfl) (by kernel_rfl) (fun _ _ _ h => h) (Or.inl ⟨by kernel_rfl, ?h1y2⟩) ?r1y2
      case h1y2 => (intro w; go_simp; try with_reducible rfl)
      refine wpAny_take (i := 2) (v := ?v2y3) rfl (by kernel_rfl) (by kernel_rfl) (by kernel_rfl) (fun _ _ _ h => h) (Or.inl ⟨by kernel_rfl, ?h2y3⟩) ?r2y3
      case h2y3 => (intro w; go_simp; try with_reducible rfl)
      refine wpAny_take (i := 3) (v := ?v3y4) rfl (by kernel_rfl) (by kernel_rfl) (by kernel_rfl) (fun _ _ _ h => h) (Or.inl ⟨by kernel_rfl, ?h3y4⟩) ?r3y4
      case h3y4 => (intro w; go_simp; try with_reducible rfl)
      refine wpAny_take (i := 4) (v := ?v4y5) rfl (by kernel_rfl) (by kernel_rfl) (by kernel_rfl) (fun _ _ _ h => h) (Or.inl ⟨by kernel_rfl, ?h4y5⟩) ?r4y5
      case h4y5 => (intro w; go_simp; try with_reducible rfl)
      refine wpAny_take (i := 5) (v := ?v5y6) rfl (by kernel_rfl) (by kernel_rfl) (by kernel_rfl) (fun _ _ _ h => h) (Or.inl ⟨by kernel_rfl, ?h5y6⟩) ?r5y6
      case h5y6 => (intro w; go_simp; try with_reducible rfl)
      refine wpAny_take (i := 6) (v := ?v6y7) rfl (by kernel_rfl) (by kernel_rfl) (by kernel_rfl) (fun _ _ _ h => h) (Or.inl ⟨by kernel_rfl, ?h6y7⟩) ?r6y7
      case h6y7 => (intro w; go_simp; try with_reducible rfl)
      refine wpAny_ready (rs := [7, 8]) (by kernel_rfl) (by simp) ?_
      refine AllReady.cons (o := { dst := some 130, op := Op.call { callee := Callee.value (Operand.func 29), args := #[Operand.tmp 128, Operand.tmp 129], argTypes := #[42, 3] }, type := 24, pos := _, after := _, guard := some (4, true) }) rfl (fun K hK => ?_) ?_
      · go_simp
        go_at_call 29
        refine (sx_stored HS1.out HK.out HD4.out).mono ?_
        rintro e wx ⟨bx, rfl, hx', hb'⟩
        rw [upd_same] at hx'
        go_simp
        refine hK _ _ ?_
        clear hK K
        have HXX0 := Lib.hid hx'
        have HS20 := Lib.hid (Sx.gr HS1.out hb')
        clear hx' hb'
        refine wpAny_ready (rs := [8]) (by kernel_rfl) (by simp) ?_
        refine AllReady.cons (o := { dst := some 131, op := Op.makeSlice 24 (Operand.const (Value.int IntKind.i64 256)) (Operand.const (Value.int IntKind.i64 256)), type := 24, pos := _, after := _, guard := some (4, true) }) rfl (fun K hK => ?_) ?_
        rotate_left
        exact AllReady.nil
        go_simp
        refine hK _ _ ?_
        clear hK K
        have HXX := Lib.hid (gr_cells HXX0.out (Gr.at_alloc wx (.cells ZX 5)))
        have HYY := Lib.hid (heap_alloc_new wx (.cells ZX 5))
        have HS2 := Lib.hid (Sx.gr HS20.out (Gr.at_alloc wx (.cells ZX 5)))
        refine wpAny_ready (rs := [9]) (by kernel_rfl) (by simp) ?_
        refine AllReady.cons (o := { dst := some 132, op := Op.call { callee := Callee.value (Operand.func 22), args := #[Operand.tmp 130, Operand.tmp 131], argTypes := #[24, 24] }, type := 4, pos := _, after := _, guard := some (4, true) }) rfl (fun K hK => ?_) ?_
        rotate_left
        exact AllReady.nil
        go_simp
        go_at_call 22
        refine (same_zz HXX.out HYY.out HZX.out HZQ.out).mono ?_
        rintro e wy ⟨rfl, hby⟩
        go_simp
        refine hK _ _ ?_
        clear hK K
        have HS3 := Lib.hid (Sx.gr HS2.out hby)
        clear hby
        refine wpAny_take (i := 10) (v := ?v10y8) rfl (by kernel_rfl) (by kernel_rfl) (by kernel_rfl) (fun _ _ _ h => h) (Or.inl ⟨by kernel_rfl, ?h10y8⟩) ?r10y8
        case h10y8 => (intro w; go_simp; try with_reducible rfl)
        refine wpAny_take (i := 11) (v := ?v11y9) rfl (by kernel_rfl) (by kernel_rfl) (by kernel_rfl) (fun _ _ _ h => h) (Or.inl ⟨by kernel_rfl, ?h11y9⟩) ?r11y9
        case h11y9 => (intro w; go_simp; try with_reducible rfl)
        refine wpAny_take (i := 12) (v := ?v12y10) rfl (by kernel_rfl) (by kernel_rfl) (by kernel_rfl) (fun _ _ _ h => h) (Or.inl ⟨by kernel_rfl, ?h12y10⟩) ?r12y10
        case h12y10 => (intro w; go_simp; try with_reducible rfl)
        refine wpAny_take (i := 13) (v := ?v13y11) rfl (by kernel_rfl) (by kernel_rfl) (by kernel_rfl) (fun _ _ _ h => h) (Or.inl ⟨by kernel_rfl, ?h13y11⟩) ?r13y11
        case h13y11 => (intro w; go_simp; try with_reducible rfl)
        refine wpAny_take (i := 14) (v := undef) rfl (by kernel_rfl) (by kernel_rfl) (by kernel_rfl) (fun _ _ _ h => h) (Or.inr ⟨by kernel_rfl, rfl⟩) ?_
        refine wpAny_take (i := 15) (v := undef) rfl (by kernel_rfl) (by kernel_rfl) (by kernel_rfl) (fun _ _ _ h => h) (Or.inr ⟨by kernel_rfl, rfl⟩) ?_
        refine wpAny_take (i := 16) (v := undef) rfl (by kernel_rfl) (by kernel_rfl) (by kernel_rfl) (fun _ _ _ h => h) (Or.inr ⟨by kernel_rfl, rfl⟩) ?_
        refine wpAny_take (i := 17) (v := undef) rfl (by kernel_rfl) (by kernel_rfl) (by kernel_rfl) (fun _ _ _ h => h) (Or.inr ⟨by kernel_rfl, rfl⟩) ?_
        refine wpAny_take (i := 18) (v := undef) rfl (by kernel_rfl) (by kernel_rfl) (by kernel_rfl) (fun _ _ _ h => h) (Or.inr ⟨by kernel_rfl, rfl⟩) ?_
        refine wpAny_take (i := 19) (v := undef) rfl (by kernel_rfl) (by kernel_rfl) (by kernel_rfl) (fun _ _ _ h => h) (Or.inr ⟨by kernel_rfl, rfl⟩) ?_
        refine wpAny_take (i := 20) (v := undef) rfl (by kernel_rfl) (by kernel_rfl) (by kernel_rfl) (fun _ _ _ h => h) (Or.inr ⟨by kernel_rfl, rfl⟩) ?_
        refine wpAny_take (i := 21) (v := undef) rfl (by kernel_rfl) (by kernel_rfl) (by kernel_rfl) (fun _ _ _ h => h) (Or.inr ⟨by kernel_rfl, rfl⟩) ?_
        refine wpAny_take (i := 22) (v := undef) rfl (by kernel_rfl) (by kernel_rfl) (by kernel_rfl) (fun _ _ _ h => h) (Or.inr ⟨by kernel_rfl, rfl⟩) ?_
        refine wpAny_take (i := 23) (v := undef) rfl (by kernel_rfl) (by kernel_rfl) (by kernel_rfl) (fun _ _ _ h => h) (Or.inr ⟨by kernel_rfl, rfl⟩) ?_
        have HSE := HS3
        refine wpAny_take (i := 24) (v := ?v24y12) rfl (by kernel_rfl) (by kernel_rfl) (by kernel_rfl) (fun _ _ _ h => h) (Or.inl ⟨by kernel_rfl, ?h24y12⟩) ?r24y12
        case h24y12 => (intro w; go_simp; try with_reducible rfl)
        refine wpAny_take (i := 25) (v := ?v25y13) rfl (by kernel_rfl) (by kernel_rfl) (by kernel_rfl) (fun _ _ _ h => h) (Or.inl ⟨by kernel_rfl, ?h25y13⟩) ?r25y13
        case h25y13 => (intro w; go_simp; try with_reducible rfl)
        refine wpAny_take (i := 26) (v := ?v26y14) rfl (by kernel_rfl) (by kernel_rfl) (by kernel_rfl) (fun _ _ _ h => h) (Or.inl ⟨by kernel_rfl, ?h26y14⟩) ?r26y14
        case h26y14 => (intro w; go_simp; try with_reducible rfl)
        refine wpAny_done (by kernel_rfl) ?_ _
        go_wp2_with fail
        go_ret
        obtain ⟨DE, hE1, _⟩ := HSE.out
        refine ⟨?_, HG.out.trans ((HU5.out.mv hE1).gr.mono HG.out.size)⟩
        kernel_rfl
      refine AllReady.cons (o := { dst := some 131, op := Op.makeSlice 24 (Operand.const (Value.int IntKind.i64 256)) (Operand.const (Value.int IntKind.i64 256)), type := 24, pos := _, after := _, guard := some (4, true) }) rfl (fun K hK => ?_) ?_
      · go_simp
        refine hK _ _ ?_
        clear hK K
        have HYY0 := Lib.hid (heap_alloc_new wd (.cells ZX 5))
        have HS20 := Lib.hid (Sx.gr HS1.out (Gr.at_alloc wd (.cells ZX 5)))
        refine wpAny_ready (rs := [7]) (by kernel_rfl) (by simp) ?_
        refine AllReady.cons (o := { dst := some 130, op := Op.call { callee := Callee.value (Operand.func 29), args := #[Operand.tmp 128, Operand.tmp 129], argTypes := #[42, 3] }, type := 24, pos := _, after := _, guard := some (4, true) }) rfl (fun K hK => ?_) ?_
        rotate_left
        exact AllReady.nil
        go_simp
        go_at_call 29
        refine (sx_stored HS20.out HK.out HD4.out).mono ?_
        rintro e wx ⟨bx, rfl, hx', hb'⟩
        rw [upd_same] at hx'
        go_simp
        refine hK _ _ ?_
        clear hK K
        have HXX := Lib.hid hx'
        have HYY := Lib.hid (gr_cells HYY0.out hb')
        have HS2 := Lib.hid (Sx.gr HS20.out hb')
        clear hx' hb'
        refine wpAny_ready (rs := [9]) (by kernel_rfl) (by simp) ?_
        refine AllReady.cons (o := { dst := some 132, op := Op.call { callee := Callee.value (Operand.func 22), args := #[Operand.tmp 130, Operand.tmp 131], argTypes := #[24, 24] }, type := 4, pos := _, after := _, guard := some (4, true) }) rfl (fun K hK => ?_) ?_
        rotate_left
        exact AllReady.nil
        go_simp
        go_at_call 22
        refine (same_zz HXX.out HYY.out HZX.out HZQ.out).mono ?_
        rintro e wy ⟨rfl, hby⟩
        go_simp
        refine hK _ _ ?_
        clear hK K
        have HS3 := Lib.hid (Sx.gr HS2.out hby)
        clear hby
        refine wpAny_take (i := 10) (v := ?v10y15) rfl (by kernel_rfl) (by kernel_rfl) (by kernel_rfl) (fun _ _ _ h => h) (Or.inl ⟨by kernel_rfl, ?h10y15⟩) ?r10y15
        case h10y15 => (intro w; go_simp; try with_reducible rfl)
        refine wpAny_take (i := 11) (v := ?v11y16) rfl (by kernel_rfl) (by kernel_rfl) (by kernel_rfl) (fun _ _ _ h => h) (Or.inl ⟨by kernel_rfl, ?h11y16⟩) ?r11y16
        case h11y16 => (intro w; go_simp; try with_reducible rfl)
        refine wpAny_take (i := 12) (v := ?v12y17) rfl (by kernel_rfl) (by kernel_rfl) (by kernel_rfl) (fun _ _ _ h => h) (Or.inl ⟨by kernel_rfl, ?h12y17⟩) ?r12y17
        case h12y17 => (intro w; go_simp; try with_reducible rfl)
        refine wpAny_take (i := 13) (v := ?v13y18) rfl (by kernel_rfl) (by kernel_rfl) (by kernel_rfl) (fun _ _ _ h => h) (Or.inl ⟨by kernel_rfl, ?h13y18⟩) ?r13y18
        case h13y18 => (intro w; go_simp; try with_reducible rfl)
        refine wpAny_take (i := 14) (v := undef) rfl (by kernel_rfl) (by kernel_rfl) (by kernel_rfl) (fun _ _ _ h => h) (Or.inr ⟨by kernel_rfl, rfl⟩) ?_
        refine wpAny_take (i := 15) (v := undef) rfl (by kernel_rfl) (by kernel_rfl) (by kernel_rfl) (fun _ _ _ h => h) (Or.inr ⟨by kernel_rfl, rfl⟩) ?_
        refine wpAny_take (i := 16) (v := undef) rfl (by kernel_rfl) (by kernel_rfl) (by kernel_rfl) (fun _ _ _ h => h) (Or.inr ⟨by kernel_rfl, rfl⟩) ?_
        refine wpAny_take (i := 17) (v := undef) rfl (by kernel_rfl) (by kernel_rfl) (by kernel_rfl) (fun _ _ _ h => h) (Or.inr ⟨by kernel_rfl, rfl⟩) ?_
        refine wpAny_take (i := 18) (v := undef) rfl (by kernel_rfl) (by kernel_rfl) (by kernel_rfl) (fun _ _ _ h => h) (Or.inr ⟨by kernel_rfl, rfl⟩) ?_
        refine wpAny_take (i := 19) (v := undef) rfl (by kernel_rfl) (by kernel_rfl) (by kernel_rfl) (fun _ _ _ h => h) (Or.inr ⟨by kernel_rfl, rfl⟩) ?_
        refine wpAny_take (i := 20) (v := undef) rfl (by kernel_rfl) (by kernel_rfl) (by kernel_rfl) (fun _ _ _ h => h) (Or.inr ⟨by kernel_rfl, rfl⟩) ?_
        refine wpAny_take (i := 21) (v := undef) rfl (by kernel_rfl) (by kernel_rfl) (by kernel_rfl) (fun _ _ _ h => h) (Or.inr ⟨by kernel_rfl, rfl⟩) ?_
        refine wpAny_take (i := 22) (v := undef) rfl (by kernel_rfl) (by kernel_rfl) (by kernel_rfl) (fun _ _ _ h => h) (Or.inr ⟨by kernel_rfl, rfl⟩) ?_
        refine wpAny_take (i := 23) (v := undef) rfl (by kernel_rfl) (by kernel_rfl) (by kernel_rfl) (fun _ _ _ h => h) (Or.inr ⟨by kernel_rfl, rfl⟩) ?_
        have HSE := HS3
        refine wpAny_take (i := 24) (v := ?v24y19) rfl (by kernel_rfl) (by kernel_rfl) (by kernel_rfl) (fun _ _ _ h => h) (Or.inl ⟨by kernel_rfl, ?h24y19⟩) ?r24y19
        case h24y19 => (intro w; go_simp; try with_reducible rfl)
        refine wpAny_take (i := 25) (v := ?v25y20) rfl (by kernel_rfl) (by kernel_rfl) (by kernel_rfl) (fun _ _ _ h => h) (Or.inl ⟨by kernel_rfl, ?h25y20⟩) ?r25y20
        case h25y20 => (intro w; go_simp; try with_reducible rfl)
        refine wpAny_take (i := 26) (v := ?v26y21) rfl (by kernel_rfl) (by kernel_rfl) (by kernel_rfl) (fun _ _ _ h => h) (Or.inl ⟨by kernel_rfl, ?h26y21⟩) ?r26y21
        case h26y21 => (intro w; go_simp; try with_reducible rfl)
        refine wpAny_done (by kernel_rfl) ?_ _
        go_wp2_with fail
        go_ret
        obtain ⟨DE, hE1, _⟩ := HSE.out
        refine ⟨?_, HG.out.trans ((HU5.out.mv hE1).gr.mono HG.out.size)⟩
        kernel_rfl
      exact AllReady.nil
    · have hc := wipe_is_ok HI13.out kk _ HM16.out.2.1 HK.out (by rw [upd_same]; exact hz) (upd_same _ _ _)
      rw [HM16.out.d, HU5.out.d] at hc
      refine hc.mono ?_
      clear hc
      rintro e w17 ⟨rfl, D10, hm17, hI17⟩
      have HI17 := Lib.hid hI17
      have HM17 := Lib.hid (HM16.out.trans hm17)
      have HZ := Lib.hid hz
      clear hm17 hI17 HM16 HI13 hz
      go_wp2_with fail
      refine (same_told (l1 := P) (l2 := Z 256) (t1 := 93) (t2 := 5) (gr_cells ((HM17.out.out HL0.out HN0.out).1.trans HX0.out) (Gr.at_alloc w17 _)) (by rw [HZX.out]; exact heap_alloc_new w17 _) HPS.out HZS.out HPL.out HZL.out).mono ?_
      rintro e w18 ⟨rfl, hg18⟩
      have HM18 := Lib.hid (HM17.out.trans (Mv.gr HM17.out.2.1 (Gr.step hg18 (Gr.at_alloc w17 _))))
      clear hg18 HM17
      rw [decide_eq_false (fun e => HZ.out e.symm)]
      go_wp2_with fail
      have HS0 : Sx w5 D4 k false (upd (upd blA kk P) kk (Z 256)) (upd (upd huA kk false) kk true) [] w18 := ⟨_, HM18.out, HI17.out⟩
      have HD4 : Hid (D4.d = d) := HU5.out.d
      have HZQ : Hid (Z 256 = Z 256) := rfl
      have HS1 := Lib.hid (Sx.gr HS0 (Gr.drew w18))
      clear HS0
      refine wp_region_any (by kernel_rfl) ?_
      change wpAny _ _ _ _ _ _ _ (World.drew _)
      generalize w18.drew = wd at *
      refine wpAny_take (i := 0) (v := ?v0y22) rfl (by kernel_rfl) (by kernel_rfl) (by kernel_rfl) (fun _ _ _ h => h) (Or.inl ⟨by kernel_rfl, ?h0y22⟩) ?r0y22
      case h0y22 => (intro w; go_simp; try with_reducible rfl)
      refine wpAny_take (i := 1) (v := ?v1y23) rfl (by kernel_rfl) (by kernel_rfl) (by kernel_rfl) (fun _ _ _ h => h) (Or.inl ⟨by kernel_rfl, ?h1y23⟩) ?r1y23
      case h1y23 => (intro w; go_simp; try with_reducible rfl)
      refine wpAny_take (i := 2) (v := ?v2y24) rfl (by kernel_rfl) (by kernel_rfl) (by kernel_rfl) (fun _ _ _ h => h) (Or.inl ⟨by kernel_rfl, ?h2y24⟩) ?r2y24
      case h2y24 => (intro w; go_simp; try with_reducible rfl)
      refine wpAny_take (i := 3) (v := ?v3y25) rfl (by kernel_rfl) (by kernel_rfl) (by kernel_rfl) (fun _ _ _ h => h) (Or.inl ⟨by kernel_rfl, ?h3y25⟩) ?r3y25
      case h3y25 => (intro w; go_simp; try with_reducible rfl)
      refine wpAny_take (i := 4) (v := ?v4y26) rfl (by kernel_rfl) (by kernel_rfl) (by kernel_rfl) (fun _ _ _ h => h) (Or.inl ⟨by kernel_rfl, ?h4y26⟩) ?r4y26
      case h4y26 => (intro w; go_simp; try with_reducible rfl)
      refine wpAny_take (i := 5) (v := ?v5y27) rfl (by kernel_rfl) (by kernel_rfl) (by kernel_rfl) (fun _ _ _ h => h) (Or.inl ⟨by kernel_rfl, ?h5y27⟩) ?r5y27
      case h5y27 => (intro w; go_simp; try with_reducible rfl)
      refine wpAny_take (i := 6) (v := ?v6y28) rfl (by kernel_rfl) (by kernel_rfl) (by kernel_rfl) (fun _ _ _ h => h) (Or.inl ⟨by kernel_rfl, ?h6y28⟩) ?r6y28
      case h6y28 => (intro w; go_simp; try with_reducible rfl)
      refine wpAny_ready (rs := [7, 8]) (by kernel_rfl) (by simp) ?_
      refine AllReady.cons (o := { dst := some 130, op := Op.call { callee := Callee.value (Operand.func 29), args := #[Operand.tmp 128, Operand.tmp 129], argTypes := #[42, 3] }, type := 24, pos := _, after := _, guard := some (4, true) }) rfl (fun K hK => ?_) ?_
      · go_simp
        go_at_call 29
        refine (sx_stored HS1.out HK.out HD4.out).mono ?_
        rintro e wx ⟨bx, rfl, hx', hb'⟩
        rw [upd_same] at hx'
        go_simp
        refine hK _ _ ?_
        clear hK K
        have HXX0 := Lib.hid hx'
        have HS20 := Lib.hid (Sx.gr HS1.out hb')
        clear hx' hb'
        refine wpAny_ready (rs := [8]) (by kernel_rfl) (by simp) ?_
        refine AllReady.cons (o := { dst := some 131, op := Op.makeSlice 24 (Operand.const (Value.int IntKind.i64 256)) (Operand.const (Value.int IntKind.i64 256)), type := 24, pos := _, after := _, guard := some (4, true) }) rfl (fun K hK => ?_) ?_
        rotate_left
        exact AllReady.nil
        go_simp
        refine hK _ _ ?_
        clear hK K
        have HXX := Lib.hid (gr_cells HXX0.out (Gr.at_alloc wx (.cells ZX 5)))
        have HYY := Lib.hid (heap_alloc_new wx (.cells ZX 5))
        have HS2 := Lib.hid (Sx.gr HS20.out (Gr.at_alloc wx (.cells ZX 5)))
        refine wpAny_ready (rs := [9]) (by kernel_rfl) (by simp) ?_
        refine AllReady.cons (o := { dst := some 132, op := Op.call { callee := Callee.value (Operand.func 22), args := #[Operand.tmp 130, Operand.tmp 131], argTypes := #[24, 24] }, type := 4, pos := _, after := _, guard := some (4, true) }) rfl (fun K hK => ?_) ?_
        rotate_left
        exact AllReady.nil
        go_simp
        go_at_call 22
        refine (same_zz HXX.out HYY.out HZX.out HZQ.out).mono ?_
        rintro e wy ⟨rfl, hby⟩
        go_simp
        refine hK _ _ ?_
        clear hK K
        have HS3 := Lib.hid (Sx.gr HS2.out hby)
        clear hby
        refine wpAny_take (i := 10) (v := ?v10y29) rfl (by kernel_rfl) (by kernel_rfl) (by kernel_rfl) (fun _ _ _ h => h) (Or.inl ⟨by kernel_rfl, ?h10y29⟩) ?r10y29
        case h10y29 => (intro w; go_simp; try with_reducible rfl)
        refine wpAny_take (i := 11) (v := ?v11y30) rfl (by kernel_rfl) (by kernel_rfl) (by kernel_rfl) (fun _ _ _ h => h) (Or.inl ⟨by kernel_rfl, ?h11y30⟩) ?r11y30
        case h11y30 => (intro w; go_simp; try with_reducible rfl)
        refine wpAny_take (i := 12) (v := ?v12y31) rfl (by kernel_rfl) (by kernel_rfl) (by kernel_rfl) (fun _ _ _ h => h) (Or.inl ⟨by kernel_rfl, ?h12y31⟩) ?r12y31
        case h12y31 => (intro w; go_simp; try with_reducible rfl)
        refine wpAny_take (i := 13) (v := ?v13y32) rfl (by kernel_rfl) (by kernel_rfl) (by kernel_rfl) (fun _ _ _ h => h) (Or.inl ⟨by kernel_rfl, ?h13y32⟩) ?r13y32
        case h13y32 => (intro w; go_simp; try with_reducible rfl)
        refine wpAny_take (i := 14) (v := ?v14y33) rfl (by kernel_rfl) (by kernel_rfl) (by kernel_rfl) (fun _ _ _ h => h) (Or.inl ⟨by kernel_rfl, ?h14y33⟩) ?r14y33
        case h14y33 => (intro w; go_simp; try with_reducible rfl)
        refine wpAny_take (i := 15) (v := ?v15y34) rfl (by kernel_rfl) (by kernel_rfl) (by kernel_rfl) (fun _ _ _ h => h) (Or.inl ⟨by kernel_rfl, ?h15y34⟩) ?r15y34
        case h15y34 => (intro w; go_simp; try with_reducible rfl)
        refine wpAny_ready (rs := [16]) (by kernel_rfl) (by simp) ?_
        refine AllReady.cons (o := { dst := some 139, op := Op.call { callee := Callee.value (Operand.func 36), args := #[Operand.tmp 137, Operand.tmp 138], argTypes := #[42, 3] }, type := 27, pos := _, after := _, guard := some (13, false) }) rfl (fun K hK => ?_) ?_
        rotate_left
        exact AllReady.nil
        go_simp
        go_at_call 36
        refine (sx_wipe HS3.out HK.out HD4.out (upd_same _ _ _).symm).mono ?_
        rintro e wv ⟨rfl, hv⟩
        go_simp
        refine hK _ _ ?_
        clear hK K
        refine wpAny_take (i := 17) (v := ?v17y35) rfl (by kernel_rfl) (by kernel_rfl) (by kernel_rfl) (fun _ _ _ h => h) (Or.inl ⟨by kernel_rfl, ?h17y35⟩) ?r17y35
        case h17y35 => (intro w; go_simp; try with_reducible rfl)
        refine wpAny_take (i := 18) (v := ?v18y36) rfl (by kernel_rfl) (by kernel_rfl) (by kernel_rfl) (fun _ _ _ h => h) (Or.inl ⟨by kernel_rfl, ?h18y36⟩) ?r18y36
        case h18y36 => (intro w; go_simp; try with_reducible rfl)
        refine wpAny_take (i := 19) (v := ?v19y37) rfl (by kernel_rfl) (by kernel_rfl) (by kernel_rfl) (fun _ _ _ h => h) (Or.inl ⟨by kernel_rfl, ?h19y37⟩) ?r19y37
        case h19y37 => (intro w; go_simp; try with_reducible rfl)
        refine wpAny_take (i := 20) (v := ?v20y38) rfl (by kernel_rfl) (by kernel_rfl) (by kernel_rfl) (fun _ _ _ h => h) (Or.inl ⟨by kernel_rfl, ?h20y38⟩) ?r20y38
        case h20y38 => (intro w; go_simp; try with_reducible rfl)
        refine wpAny_ready (rs := [21]) (by kernel_rfl) (by simp) ?_
        refine AllReady.cons (o := { dst := some 144, op := Op.call { callee := Callee.value (Operand.func 35), args := #[Operand.tmp 142, Operand.tmp 143, Operand.const (Value.int IntKind.i64 9), Operand.const (Value.int IntKind.u32 1)], argTypes := #[42, 3, 3, 23] }, type := 27, pos := _, after := _, guard := some (18, true) }) rfl (fun K hK => ?_) ?_
        rotate_left
        exact AllReady.nil
        go_simp
        go_at_call 35
        refine (sx_rot hv HK.out HD4.out (upd_same _ _ _) (upd_same _ _ _)).mono ?_
        rintro e wE ⟨rfl, hE⟩
        go_simp
        refine hK _ _ ?_
        clear hK K
        have HSE := Lib.hid hE
        refine wpAny_take (i := 22) (v := ?v22y39) rfl (by kernel_rfl) (by kernel_rfl) (by kernel_rfl) (fun _ _ _ h => h) (Or.inl ⟨by kernel_rfl, ?h22y39⟩) ?r22y39
        case h22y39 => (intro w; go_simp; try with_reducible rfl)
        refine wpAny_take (i := 23) (v := ?v23y40) rfl (by kernel_rfl) (by kernel_rfl) (by kernel_rfl) (fun _ _ _ h => h) (Or.inl ⟨by kernel_rfl, ?h23y40⟩) ?r23y40
        case h23y40 => (intro w; go_simp; try with_reducible rfl)
        refine wpAny_take (i := 24) (v := ?v24y41) rfl (by kernel_rfl) (by kernel_rfl) (by kernel_rfl) (fun _ _ _ h => h) (Or.inl ⟨by kernel_rfl, ?h24y41⟩) ?r24y41
        case h24y41 => (intro w; go_simp; try with_reducible rfl)
        refine wpAny_take (i := 25) (v := ?v25y42) rfl (by kernel_rfl) (by kernel_rfl) (by kernel_rfl) (fun _ _ _ h => h) (Or.inl ⟨by kernel_rfl, ?h25y42⟩) ?r25y42
        case h25y42 => (intro w; go_simp; try with_reducible rfl)
        refine wpAny_take (i := 26) (v := ?v26y43) rfl (by kernel_rfl) (by kernel_rfl) (by kernel_rfl) (fun _ _ _ h => h) (Or.inl ⟨by kernel_rfl, ?h26y43⟩) ?r26y43
        case h26y43 => (intro w; go_simp; try with_reducible rfl)
        refine wpAny_done (by kernel_rfl) ?_ _
        go_wp2_with fail
        go_ret
        obtain ⟨DE, hE1, _⟩ := HSE.out
        refine ⟨?_, HG.out.trans ((HU5.out.mv hE1).gr.mono HG.out.size)⟩
        kernel_rfl
      refine AllReady.cons (o := { dst := some 131, op := Op.makeSlice 24 (Operand.const (Value.int IntKind.i64 256)) (Operand.const (Value.int IntKind.i64 256)), type := 24, pos := _, after := _, guard := some (4, true) }) rfl (fun K hK => ?_) ?_
      · go_simp
        refine hK _ _ ?_
        clear hK K
        have HYY0 := Lib.hid (heap_alloc_new wd (.cells ZX 5))
        have HS20 := Lib.hid (Sx.gr HS1.out (Gr.at_alloc wd (.cells ZX 5)))
        refine wpAny_ready (rs := [7]) (by kernel_rfl) (by simp) ?_
        refine AllReady.cons (o := { dst := some 130, op := Op.call { callee := Callee.value (Operand.func 29), args := #[Operand.tmp 128, Operand.tmp 129], argTypes := #[42, 3] }, type := 24, pos := _, after := _, guard := some (4, true) }) rfl (fun K hK => ?_) ?_
        rotate_left
        exact AllReady.nil
        go_simp
        go_at_call 29
        refine (sx_stored HS20.out HK.out HD4.out).mono ?_
        rintro e wx ⟨bx, rfl, hx', hb'⟩
        rw [upd_same] at hx'
        go_simp
        refine hK _ _ ?_
        clear hK K
        have HXX := Lib.hid hx'
        have HYY := Lib.hid (gr_cells HYY0.out hb')
        have HS2 := Lib.hid (Sx.gr HS20.out hb')
        clear hx' hb'
        refine wpAny_ready (rs := [9]) (by kernel_rfl) (by simp) ?_
        refine AllReady.cons (o := { dst := some 132, op := Op.call { callee := Callee.value (Operand.func 22), args := #[Operand.tmp 130, Operand.tmp 131], argTypes := #[24, 24] }, type := 4, pos := _, after := _, guard := some (4, true) }) rfl (fun K hK => ?_) ?_
        rotate_left
        exact AllReady.nil
        go_simp
        go_at_call 22
        refine (same_zz HXX.out HYY.out HZX.out HZQ.out).mono ?_
        rintro e wy ⟨rfl, hby⟩
        go_simp
        refine hK _ _ ?_
        clear hK K
        have HS3 := Lib.hid (Sx.gr HS2.out hby)
        clear hby
        refine wpAny_take (i := 10) (v := ?v10y44) rfl (by kernel_rfl) (by kernel_rfl) (by kernel_rfl) (fun _ _ _ h => h) (Or.inl ⟨by kernel_rfl, ?h10y44⟩) ?r10y44
        case h10y44 => (intro w; go_simp; try with_reducible rfl)
        refine wpAny_take (i := 11) (v := ?v11y45) rfl (by kernel_rfl) (by kernel_rfl) (by kernel_rfl) (fun _ _ _ h => h) (Or.inl ⟨by kernel_rfl, ?h11y45⟩) ?r11y45
        case h11y45 => (intro w; go_simp; try with_reducible rfl)
        refine wpAny_take (i := 12) (v := ?v12y46) rfl (by kernel_rfl) (by kernel_rfl) (by kernel_rfl) (fun _ _ _ h => h) (Or.inl ⟨by kernel_rfl, ?h12y46⟩) ?r12y46
        case h12y46 => (intro w; go_simp; try with_reducible rfl)
        refine wpAny_take (i := 13) (v := ?v13y47) rfl (by kernel_rfl) (by kernel_rfl) (by kernel_rfl) (fun _ _ _ h => h) (Or.inl ⟨by kernel_rfl, ?h13y47⟩) ?r13y47
        case h13y47 => (intro w; go_simp; try with_reducible rfl)
        refine wpAny_take (i := 14) (v := ?v14y48) rfl (by kernel_rfl) (by kernel_rfl) (by kernel_rfl) (fun _ _ _ h => h) (Or.inl ⟨by kernel_rfl, ?h14y48⟩) ?r14y48
        case h14y48 => (intro w; go_simp; try with_reducible rfl)
        refine wpAny_take (i := 15) (v := ?v15y49) rfl (by kernel_rfl) (by kernel_rfl) (by kernel_rfl) (fun _ _ _ h => h) (Or.inl ⟨by kernel_rfl, ?h15y49⟩) ?r15y49
        case h15y49 => (intro w; go_simp; try with_reducible rfl)
        refine wpAny_ready (rs := [16]) (by kernel_rfl) (by simp) ?_
        refine AllReady.cons (o := { dst := some 139, op := Op.call { callee := Callee.value (Operand.func 36), args := #[Operand.tmp 137, Operand.tmp 138], argTypes := #[42, 3] }, type := 27, pos := _, after := _, guard := some (13, false) }) rfl (fun K hK => ?_) ?_
        rotate_left
        exact AllReady.nil
        go_simp
        go_at_call 36
        refine (sx_wipe HS3.out HK.out HD4.out (upd_same _ _ _).symm).mono ?_
        rintro e wv ⟨rfl, hv⟩
        go_simp
        refine hK _ _ ?_
        clear hK K
        refine wpAny_take (i := 17) (v := ?v17y50) rfl (by kernel_rfl) (by kernel_rfl) (by kernel_rfl) (fun _ _ _ h => h) (Or.inl ⟨by kernel_rfl, ?h17y50⟩) ?r17y50
        case h17y50 => (intro w; go_simp; try with_reducible rfl)
        refine wpAny_take (i := 18) (v := ?v18y51) rfl (by kernel_rfl) (by kernel_rfl) (by kernel_rfl) (fun _ _ _ h => h) (Or.inl ⟨by kernel_rfl, ?h18y51⟩) ?r18y51
        case h18y51 => (intro w; go_simp; try with_reducible rfl)
        refine wpAny_take (i := 19) (v := ?v19y52) rfl (by kernel_rfl) (by kernel_rfl) (by kernel_rfl) (fun _ _ _ h => h) (Or.inl ⟨by kernel_rfl, ?h19y52⟩) ?r19y52
        case h19y52 => (intro w; go_simp; try with_reducible rfl)
        refine wpAny_take (i := 20) (v := ?v20y53) rfl (by kernel_rfl) (by kernel_rfl) (by kernel_rfl) (fun _ _ _ h => h) (Or.inl ⟨by kernel_rfl, ?h20y53⟩) ?r20y53
        case h20y53 => (intro w; go_simp; try with_reducible rfl)
        refine wpAny_ready (rs := [21]) (by kernel_rfl) (by simp) ?_
        refine AllReady.cons (o := { dst := some 144, op := Op.call { callee := Callee.value (Operand.func 35), args := #[Operand.tmp 142, Operand.tmp 143, Operand.const (Value.int IntKind.i64 9), Operand.const (Value.int IntKind.u32 1)], argTypes := #[42, 3, 3, 23] }, type := 27, pos := _, after := _, guard := some (18, true) }) rfl (fun K hK => ?_) ?_
        rotate_left
        exact AllReady.nil
        go_simp
        go_at_call 35
        refine (sx_rot hv HK.out HD4.out (upd_same _ _ _) (upd_same _ _ _)).mono ?_
        rintro e wE ⟨rfl, hE⟩
        go_simp
        refine hK _ _ ?_
        clear hK K
        have HSE := Lib.hid hE
        refine wpAny_take (i := 22) (v := ?v22y54) rfl (by kernel_rfl) (by kernel_rfl) (by kernel_rfl) (fun _ _ _ h => h) (Or.inl ⟨by kernel_rfl, ?h22y54⟩) ?r22y54
        case h22y54 => (intro w; go_simp; try with_reducible rfl)
        refine wpAny_take (i := 23) (v := ?v23y55) rfl (by kernel_rfl) (by kernel_rfl) (by kernel_rfl) (fun _ _ _ h => h) (Or.inl ⟨by kernel_rfl, ?h23y55⟩) ?r23y55
        case h23y55 => (intro w; go_simp; try with_reducible rfl)
        refine wpAny_take (i := 24) (v := ?v24y56) rfl (by kernel_rfl) (by kernel_rfl) (by kernel_rfl) (fun _ _ _ h => h) (Or.inl ⟨by kernel_rfl, ?h24y56⟩) ?r24y56
        case h24y56 => (intro w; go_simp; try with_reducible rfl)
        refine wpAny_take (i := 25) (v := ?v25y57) rfl (by kernel_rfl) (by kernel_rfl) (by kernel_rfl) (fun _ _ _ h => h) (Or.inl ⟨by kernel_rfl, ?h25y57⟩) ?r25y57
        case h25y57 => (intro w; go_simp; try with_reducible rfl)
        refine wpAny_take (i := 26) (v := ?v26y58) rfl (by kernel_rfl) (by kernel_rfl) (by kernel_rfl) (fun _ _ _ h => h) (Or.inl ⟨by kernel_rfl, ?h26y58⟩) ?r26y58
        case h26y58 => (intro w; go_simp; try with_reducible rfl)
        refine wpAny_done (by kernel_rfl) ?_ _
        go_wp2_with fail
        go_ret
        obtain ⟨DE, hE1, _⟩ := HSE.out
        refine ⟨?_, HG.out.trans ((HU5.out.mv hE1).gr.mono HG.out.size)⟩
        kernel_rfl
      exact AllReady.nil
end Go.Proofs.Ytkdphgcbecldbaa
