/- The disk: Wake, walked. -/
import Derived.Test.YtkdphgcbecldbaaDevV
namespace Go.Proofs.Ytkdphgcbecldbaa
open Go.RowKit
attribute [local go_sem ↓] wp_ld95 wp_st95
theorem and1_int (n : Int) : bits .and .i64 n 1 = n % 2 := by
  have h1 : (BitVec.ofInt 64 1).toNat = 2 ^ 1 - 1 := by decide
  have key : (BitVec.ofInt 64 n &&& BitVec.ofInt 64 1).toNat = (n % ((2 ^ 64 : Nat) : Int)).toNat % 2 ^ 1 := by
    rw [BitVec.toNat_and, BitVec.toNat_ofInt, h1, Nat.and_two_pow_sub_one_eq_mod]
  show IntKind.i64.wrap ((BitVec.ofInt 64 n &&& BitVec.ofInt 64 1).toNat : Nat) = n % 2
  rw [key, IntKind.wrap_i64]
  omega
theorem wake_end {D : Dk} {a b c : Int} {w wr : World} (hmv : Mv w D wr (D.wkAll a b c D.ws)) (hd : (D.wkAll a b c D.ws).d = D.d) :
    Mv w D (((wr.setCell ⟨D.d, 6, none⟩ (.slice none 0 0)).setCell ⟨D.d, 2, none⟩ (.int .i64 0)).setCell ⟨D.d, 3, none⟩ (.bool false)) (D.wake a b c) := by
  have m1 := hmv.trans (Mv.drop hmv.2.1)
  have m2 := m1.trans (Mv.put (D' := { D.wkAll a b c D.ws with wv := .slice none 0 0, ws := [], ar := 0 }) m1.2.1 2 (.int .i64 0) (by omega) rfl (by simp) rfl)
  have m3 := m2.trans (Mv.put (D' := D.wake a b c) m2.2.1 3 (.bool false) (by omega) rfl (by simp [Dk.wake]) rfl)
  have e : ∀ i, (⟨(D.wkAll a b c D.ws).d, i, none⟩ : Addr) = ⟨D.d, i, none⟩ := fun i => by rw [hd]
  simp only [e] at m3
  exact m3
set_option maxRecDepth 100000 in
set_option maxHeartbeats 2000000 in
theorem wake_some (D : Dk) (a b c : Int) (w : World) (h : Dsk w D) (hd : D.dn = true) (hn : 0 < D.ws.length) (hws : D.ws.length ≤ 1000000) :
    Calls Try.prog 31 #[.pointer (some ⟨D.d, 0, none⟩), .int .i64 a, .int .i64 b, .int .i64 c] w fun r w' => r = .returned (.int .i64 0) ∧ Mv w D w' (D.wake a b c) := by
  have HH := Lib.hid h
  have Hd := Lib.hid hd
  clear h hd
  go_enter Try.func31, Try.ntmps31
  go_wp2_with fail
  refine (up_no D _ HH.out Hd.out).mono ?_
  rintro e w1 ⟨rfl, rfl⟩
  go_wp2_with fail
  refine (told_cd 11 _ (by omega)).mono ?_
  rintro e w1 ⟨rfl, hg⟩
  have hD := HH.out.gr hg
  have h6 : w1.cell? ⟨D.d, 6, none⟩ = some D.wv := hD.c 6 rfl
  obtain ⟨g, cap, hwv, hcap, hw⟩ := hD.wait hn
  rw [hwv] at h6
  have HM : Hid (Mv w D w1 D) := Mv.gr HH.out hg
  have HW := Lib.hid hwv
  clear hw hwv hcap hg hD
  go_wp2_with fail
  go_loopw [24] (fun i wr => ∃ k : Nat, k ≤ D.ws.length ∧ i = .int .i64 k ∧ Mv w D wr (D.wkAll a b c (D.ws.take k))) (fun i _ => D.ws.length - (intOf i).toNat)
  case atStart => exact ⟨0, by omega, rfl, HM.out⟩
  case round =>
    obtain ⟨k, hk, rfl, hmv⟩ := hrel
    have HMV := Lib.hid hmv
    clear hmv
    have HS := Lib.hid (wkAll_same D a b c (D.ws.take k))
    by_cases hkn : k < D.ws.length
    · have hsnoc : D.ws.take (k + 1) = D.ws.take k ++ [D.ws[k]] := by rw [List.take_succ_eq_append_getElem hkn]
      have htl : (D.ws.take k).length = k := by rw [List.length_take]; omega
      have hEd := HMV.out.2.1
      obtain ⟨s1, s2, s3, s4⟩ := HS.out
      obtain ⟨E, hEe⟩ : ∃ E : Dk, E = D.wkAll a b c (D.ws.take k) := ⟨_, rfl⟩
      rw [← hEe] at hEd s1 s2 s3 s4
      have hwE : E.wv = .slice (some ⟨g, 0, none⟩) D.ws.length cap := s3.trans HW.out
      have s4' : E.ws = D.ws := s4
      have hkE : k < E.ws.length := by rw [s4']; exact hkn
      obtain ⟨g', cap', hv', hc', hw'⟩ := hEd.wait (by omega)
      have hgc := hv'.symm.trans hwE
      rw [s4'] at hgc
      injection hgc with e1 _ e3
      injection e1 with e1
      injection e1 with e1
      subst e1
      subst e3
      have hx := hw' k hkE
      have hent := hEd.wsn _ (List.getElem_mem hkE)
      have hEq : E.ws[k] = D.ws[k] := by simp only [s4']
      rw [hEq] at hx hent
      generalize D.ws[k] = e0 at *
      obtain ⟨n, l⟩ := e0
      obtain ⟨hn1, hn2, hn3⟩ := hent
      have hlen : (lc (n, l)).length = 257 := lc_len hn2
      have hld := ldv95 hx hlen
      have hst := stv95_new wr (lc (n, l)).toArray (by rw [List.size_toArray]; exact hlen) (all_oneCell_toArray lc_one)
      have hnew := heap_alloc_new wr (.cells (lc (n, l)).toArray 95)
      have hld2 := ldv95 (w := wr.alloc (.cells (lc (n, l)).toArray 95)) (b := wr.heap.size) (o := 0) (cs := lc (n, l)) (fun j v hv => by
        rw [cell_of_row _ _ _ _ _ _ hnew, Nat.zero_add, List.getElem?_toArray]; exact hv) hlen
      have HGR := Lib.hid (Gr.at_alloc wr (.cells (lc (n, l)).toArray 95))
      have HST := Lib.hid (fun many W hW hm => store_any E n many l W hW hn1 hm hn2 hn3)
      have HEE : Hid (D.wkAll a b c (D.ws.take (k + 1)) = E.wk1 a b c k (n, l)) := by
        show _ = _
        rw [hsnoc, wkAll_snoc, ← hEe, htl]
      have HED := Lib.hid hEd
      have HEe := Lib.hid hEe
      have Hd1 : Hid (E.d = D.d) := s1
      clear hEd hEe hx hnew hw' hc' hv' hwE hsnoc s1 s2 s3 s4 s4' hEq hkE htl
      generalize (lc (n, l)).toArray = X at *
      have b1 : (0 : Int) ≤ (k : Int) := by omega
      have b2 : (k : Int) < (D.ws.length : Int) := by omega
      by_cases ht : (k : Int) = b
      · have ht1 : ((k : Int) == b) = true := by simpa using ht
        have hq1 : -9 < c.tmod 9 := by
          have h := Int.tmod_lt_of_pos (-c) (show (0 : Int) < 9 by omega)
          rw [Int.neg_tmod] at h; omega
        have hq2 : c.tmod 9 < 9 := Int.tmod_lt_of_pos c (by omega)
        have hq3 : c % 9 = c.tmod 9 + if 0 ≤ c ∨ (9 : Int) ∣ c then 0 else (9 : Int).natAbs := Int.emod_eq_tmod
        have hq4 := Int.emod_nonneg c (show (9 : Int) ≠ 0 by omega)
        have hq5 := Int.emod_lt_of_pos c (show (0 : Int) < 9 by omega)
        have hwk : E.wk1 a b c k (n, l) = E.st n l (c % 9).toNat := by unfold Dk.wk1 wkn; rw [if_pos ht]
        obtain ⟨m, hm⟩ : ∃ m : Nat, c % 9 = (m : Int) := ⟨(c % 9).toNat, by omega⟩
        rw [hm, Int.toNat_natCast] at hwk
        have HWK := Lib.hid hwk
        have hm8 : m ≤ 8 := by omega
        have hc := HST.out m _ (HED.out.gr HGR.out) hm8
        rw [Hd1.out] at hc
        have HCC := Lib.hid hc
        clear hwk hc ht
        by_cases hneg : c.tmod 9 < 0
        · have hmm : c.tmod 9 + 9 = (m : Int) := by
            rw [← hm]; split at hq3 <;> omega
          have HMM := Lib.hid hmm
          clear hq3 hq4 hq5 hm hmm
          go_wp2_with fail
          rw [HMM.out]
          refine HCC.out.mono ?_
          rintro e w2 ⟨rfl, hm2⟩
          have HM2 := Lib.hid hm2
          clear hm2
          go_wp2_with fail
          go_roundw
          case rel =>
            refine ⟨k + 1, by omega, by go_num, ?_⟩
            rw [HEE.out, HWK.out]
            have h0 := HMV.out
            rw [← HEe.out] at h0
            exact (h0.trans (Mv.gr h0.2.1 HGR.out)).trans HM2.out
          case measure => simp [intOf]; omega
        · have hmm : c.tmod 9 = (m : Int) := by
            rw [← hm]; split at hq3 <;> omega
          have HMM := Lib.hid hmm
          clear hq3 hq4 hq5 hm hmm
          go_wp2_with fail
          rw [HMM.out]
          refine HCC.out.mono ?_
          rintro e w2 ⟨rfl, hm2⟩
          have HM2 := Lib.hid hm2
          clear hm2
          go_wp2_with fail
          go_roundw
          case rel =>
            refine ⟨k + 1, by omega, by go_num, ?_⟩
            rw [HEE.out, HWK.out]
            have h0 := HMV.out
            rw [← HEe.out] at h0
            exact (h0.trans (Mv.gr h0.2.1 HGR.out)).trans HM2.out
          case measure => simp [intOf]; omega
      · have ht1 : ((k : Int) == b) = false := by simpa using ht
        by_cases hb : a / 2 ^ (k % 60) % 2 = 1
        · have hwk : E.wk1 a b c k (n, l) = E.st n l 8 := by unfold Dk.wk1 wkn; rw [if_neg ht, if_pos hb]
          have hb1 : (bits .and .i64 (a / 2 ^ (k % 60)) 1 == 1) = true := by rw [and1_int, hb]; rfl
          have HWK := Lib.hid hwk
          clear hwk hb ht
          go_wp2_with fail
          have hc := HST.out 8 _ (HED.out.gr HGR.out) (by omega)
          rw [Hd1.out] at hc
          refine hc.mono ?_
          rintro e w2 ⟨rfl, hm2⟩
          have HM2 := Lib.hid hm2
          clear hm2 hc
          go_wp2_with fail
          go_roundw
          case rel =>
            refine ⟨k + 1, by omega, by go_num, ?_⟩
            rw [HEE.out, HWK.out]
            have h0 := HMV.out
            rw [← HEe.out] at h0
            exact (h0.trans (Mv.gr h0.2.1 HGR.out)).trans HM2.out
          case measure => simp [intOf]; omega
        · have hwk : E.wk1 a b c k (n, l) = E := by unfold Dk.wk1 wkn; rw [if_neg ht, if_neg hb]
          have hb1 : (bits .and .i64 (a / 2 ^ (k % 60)) 1 == 1) = false := by rw [and1_int]; simpa using hb
          have HWK := Lib.hid hwk
          clear hwk hb ht
          go_wp2_with fail
          go_roundw
          case rel =>
            refine ⟨k + 1, by omega, by go_num, ?_⟩
            rw [HEE.out, HWK.out]
            have h0 := HMV.out
            rw [← HEe.out] at h0
            exact h0.trans (Mv.gr h0.2.1 HGR.out)
          case measure => simp [intOf]; omega
    · obtain rfl : k = D.ws.length := by omega
      have htk : D.ws.take D.ws.length = D.ws := List.take_length
      have hmv := HMV.out
      rw [htk] at hmv
      have hd0 : (D.wkAll a b c D.ws).d = D.d := (wkAll_same D a b c D.ws).1
      have h6 : wr.cell? ⟨D.d, 6, none⟩ = some (D.wkAll a b c D.ws).wv := by rw [← hd0]; exact hmv.2.1.c 6 rfl
      have f6 : wr.frozen? ⟨D.d, 6, none⟩ = false := by rw [← hd0]; exact hmv.2.1.f 6 (by omega)
      have h2 : wr.cell? ⟨D.d, 2, none⟩ = some (.int .i64 (D.wkAll a b c D.ws).ar) := by rw [← hd0]; exact hmv.2.1.c 2 rfl
      have f2 : wr.frozen? ⟨D.d, 2, none⟩ = false := by rw [← hd0]; exact hmv.2.1.f 2 (by omega)
      have h3 : wr.cell? ⟨D.d, 3, none⟩ = some (.bool (D.wkAll a b c D.ws).dn) := by rw [← hd0]; exact hmv.2.1.c 3 rfl
      have f3 : wr.frozen? ⟨D.d, 3, none⟩ = false := by rw [← hd0]; exact hmv.2.1.f 3 (by omega)
      have HFIN := Lib.hid (wake_end hmv hd0)
      clear hmv hd0 htk
      generalize (D.wkAll a b c D.ws).wv = u6 at *
      generalize (D.wkAll a b c D.ws).ar = u2 at *
      generalize (D.wkAll a b c D.ws).dn = u3 at *
      go_wp2_with fail
      go_ret
      exact ⟨rfl, HFIN.out⟩
set_option maxRecDepth 100000 in
set_option maxHeartbeats 2000000 in
theorem wake_none (D : Dk) (a b c : Int) (w : World) (h : Dsk w D) (hd : D.dn = true) (hn : D.ws = []) :
    Calls Try.prog 31 #[.pointer (some ⟨D.d, 0, none⟩), .int .i64 a, .int .i64 b, .int .i64 c] w fun r w' => r = .returned (.int .i64 0) ∧ Mv w D w' (D.wake a b c) := by
  have HH := Lib.hid h
  have Hd := Lib.hid hd
  have HN := Lib.hid hn
  clear h hd hn
  go_enter Try.func31, Try.ntmps31
  go_wp2_with fail
  refine (up_no D _ HH.out Hd.out).mono ?_
  rintro e w1 ⟨rfl, rfl⟩
  go_wp2_with fail
  refine (told_cd 11 _ (by omega)).mono ?_
  rintro e w1 ⟨rfl, hg⟩
  have hD := HH.out.gr hg
  have h6 : w1.cell? ⟨D.d, 6, none⟩ = some D.wv := hD.c 6 rfl
  have f6 : w1.frozen? ⟨D.d, 6, none⟩ = false := hD.f 6 (by omega)
  have h2 := hD.c 2 rfl
  have f2 := hD.f 2 (by omega)
  have h3 := hD.c 3 rfl
  have f3 := hD.f 3 (by omega)
  obtain ⟨A, cap, hwv⟩ := hD.wait_nil HN.out
  rw [hwv] at h6
  have HM : Hid (Mv w D w1 D) := Mv.gr HH.out hg
  have hw0 : D.wkAll a b c D.ws = D := by rw [HN.out]; rfl
  have HFIN := Lib.hid (wake_end (D := D) (a := a) (b := b) (c := c) (by rw [hw0]; exact HM.out) (by rw [hw0]))
  clear hwv hg hD hw0
  go_wp2_with fail
  refine wp_loop_rounds 1 ?_
  rw [rounds_succ]
  go_wp2_with fail
  go_ret
  exact ⟨rfl, HFIN.out⟩
theorem wake_ok (D : Dk) (a b c : Int) (w : World) (h : Dsk w D) (hd : D.dn = true) (hws : D.ws.length ≤ 1000000) :
    Calls Try.prog 31 #[.pointer (some ⟨D.d, 0, none⟩), .int .i64 a, .int .i64 b, .int .i64 c] w fun r w' => r = .returned (.int .i64 0) ∧ Mv w D w' (D.wake a b c) := by
  rcases Nat.eq_zero_or_pos D.ws.length with h0 | h0
  · exact wake_none D a b c w h hd (List.eq_nil_of_length_eq_zero h0)
  · exact wake_some D a b c w h hd h0 hws
end Go.Proofs.Ytkdphgcbecldbaa
