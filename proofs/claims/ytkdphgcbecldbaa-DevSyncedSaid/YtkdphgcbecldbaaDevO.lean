/- The disk: Sync. -/
import Derived.Test.YtkdphgcbecldbaaDevN
namespace Go.Proofs.Ytkdphgcbecldbaa
open Go.RowKit
attribute [local go_sem ↓] wp_ld95 wp_st95
def Dk.stAll (D : Dk) (es : List (Nat × List Nat)) : Dk := es.foldl (fun D e => D.st e.1 e.2 8) D
theorem stAll_same : ∀ (es : List (Nat × List Nat)) (D : Dk), (D.stAll es).d = D.d ∧ (D.stAll es).k = D.k ∧ (D.stAll es).wv = D.wv ∧ (D.stAll es).ws = D.ws ∧ (D.stAll es).ar = D.ar ∧ (D.stAll es).dn = D.dn ∧ (D.stAll es).tu = D.tu ∧ (D.stAll es).cr = D.cr
  | [], _ => ⟨rfl, rfl, rfl, rfl, rfl, rfl, rfl, rfl⟩
  | e :: r, D => stAll_same r (D.st e.1 e.2 8)
theorem stAll_snoc (es : List (Nat × List Nat)) (e : Nat × List Nat) (D : Dk) : D.stAll (es ++ [e]) = (D.stAll es).st e.1 e.2 8 := by
  unfold Dk.stAll
  rw [List.foldl_append]
  rfl
def Dk.sync (D : Dk) : Dk := { D.turn.stAll D.ws with wv := .slice none 0 0, ws := [] }
theorem lc_one {n : Nat} {l : List Nat} : ∀ u ∈ lc (n, l), u.oneCell' = true := by
  intro u hu
  rcases List.mem_cons.1 hu with rfl | h
  · rfl
  · exact bvs_one _ u h
set_option maxRecDepth 100000 in
set_option maxHeartbeats 1000000 in
theorem sync_some (D : Dk) (w : World) (h : Dsk w D) (hd : D.dn = false) (ha : ¬ D.ar = 1) (hn : 0 < D.ws.length) (hws : D.ws.length ≤ 1000000) :
    Calls Try.prog 27 #[.pointer (some ⟨D.d, 0, none⟩)] w fun r w' => r = .returned (.int .i64 0) ∧ Mv w D w' D.sync := by
  have HH := Lib.hid h
  have Hd := Lib.hid hd
  have HA := Lib.hid ha
  clear h hd ha
  go_enter Try.func27, Try.ntmps27
  go_wp2_with fail
  refine (up_ok D _ HH.out Hd.out).mono ?_
  rintro e w1 ⟨rfl, rfl⟩
  go_wp2_with fail
  refine (turn_yes D _ HH.out HA.out).mono ?_
  rintro e w1 ⟨rfl, hm⟩
  simp only [De.v]
  have h6 : w1.cell? ⟨D.d, 6, none⟩ = some D.wv := hm.2.1.c 6 rfl
  obtain ⟨g, cap, hwv, hcap, hw⟩ := hm.2.1.wait hn
  have hwv' : D.wv = .slice (some ⟨g, 0, none⟩) D.ws.length cap := hwv
  rw [hwv'] at h6
  have HM := Lib.hid hm
  have HW := Lib.hid hwv'
  clear hm hw hwv hwv' hcap
  go_wp2_with fail
  go_loopw [23] (fun i wr => ∃ k : Nat, k ≤ D.ws.length ∧ i = .int .i64 k ∧ Mv w D wr (D.turn.stAll (D.ws.take k))) (fun i _ => D.ws.length - (intOf i).toNat)
  case atStart => exact ⟨0, by omega, rfl, HM.out⟩
  case round =>
    obtain ⟨k, hk, rfl, hmv⟩ := hrel
    have HMV := Lib.hid hmv
    clear hmv
    have HS := Lib.hid (stAll_same (D.ws.take k) D.turn)
    by_cases hkn : k < D.ws.length
    · have hsnoc : D.ws.take (k + 1) = D.ws.take k ++ [D.ws[k]] := by rw [List.take_succ_eq_append_getElem hkn]
      have hEd := HMV.out.2.1
      obtain ⟨s1, s2, s3, s4, s5, s6, s7, s8⟩ := HS.out
      have hE : ∃ E : Dk, E = D.turn.stAll (D.ws.take k) := ⟨_, rfl⟩
      obtain ⟨E, hEe⟩ := hE
      rw [← hEe] at hEd s1 s2 s3 s4
      have hwE : E.wv = .slice (some ⟨g, 0, none⟩) D.ws.length cap := s3.trans HW.out
      have s4' : E.ws = D.ws := s4
      have hkE : k < E.ws.length := by rw [s4']; exact hkn
      obtain ⟨g', cap', hv', hc', hw'⟩ := hEd.wait (by omega)
      have hgc := hv'.symm.trans hwE
      rw [s4'] at hgc
      injection hgc with e1 _ e3
      injection e1 with e1
      injection e1 with e1
      subst e1
      subst e3
      have hx := hw' k hkE
      have hent := hEd.wsn _ (List.getElem_mem hkE)
      have hEq : E.ws[k] = D.ws[k] := by simp only [s4']
      rw [hEq] at hx hent
      generalize D.ws[k] = e0 at *
      obtain ⟨n, l⟩ := e0
      obtain ⟨hn1, hn2, hn3⟩ := hent
      have hlen : (lc (n, l)).length = 257 := lc_len hn2
      have hld := ldv95 hx hlen
      have hst := stv95_new wr (lc (n, l)).toArray (by rw [List.size_toArray]; exact hlen) (all_oneCell_toArray lc_one)
      have hnew := heap_alloc_new wr (.cells (lc (n, l)).toArray 95)
      have hld2 := ldv95 (w := wr.alloc (.cells (lc (n, l)).toArray 95)) (b := wr.heap.size) (o := 0) (cs := lc (n, l)) (fun j v hv => by
        rw [cell_of_row _ _ _ _ _ _ hnew, Nat.zero_add, List.getElem?_toArray]; exact hv) hlen
      have hgr := Gr.at_alloc wr (.cells (lc (n, l)).toArray 95)
      have HST := fun W hW => store_all E n l W hW hn1 hn2 hn3
      have hEE : D.turn.stAll (D.ws.take (k + 1)) = E.st n l 8 := by rw [hsnoc, stAll_snoc, ← hEe]
      have HGR := Lib.hid hgr
      have HED := Lib.hid hEd
      have HEE := Lib.hid hEE
      have HEe := Lib.hid hEe
      have HST := Lib.hid HST
      have hd1 : E.d = D.d := s1
      have Hd1 := Lib.hid hd1
      clear hgr hEd hEE hEe hx hnew hw' hc' hv' hwE hsnoc s1 s2 s3 s4 s4' s5 s6 s7 s8 hEq hd1 hkE
      generalize (lc (n, l)).toArray = X at *
      have b1 : (0 : Int) ≤ (k : Int) := by omega
      have b2 : (k : Int) < (D.ws.length : Int) := by omega
      go_wp2_with fail
      have hc := HST.out _ (HED.out.gr HGR.out)
      rw [Hd1.out] at hc
      refine hc.mono ?_
      rintro e w2 ⟨rfl, hm2⟩
      have HM2 := Lib.hid hm2
      clear hm2 hc
      go_wp2_with fail
      go_roundw
      case rel =>
        refine ⟨k + 1, by omega, by go_num, ?_⟩
        rw [HEE.out]
        have h0 := HMV.out
        rw [← HEe.out] at h0
        exact (h0.trans (Mv.gr h0.2.1 HGR.out)).trans HM2.out
      case measure => simp [intOf]; omega
    · obtain rfl : k = D.ws.length := by omega
      have htk : D.ws.take D.ws.length = D.ws := List.take_length
      have hmv := HMV.out
      rw [htk] at hmv
      have hs := stAll_same D.ws D.turn
      have hd0 : (D.turn.stAll D.ws).d = D.d := hs.1
      have h6 : wr.cell? ⟨D.d, 6, none⟩ = some (D.turn.stAll D.ws).wv := by rw [← hd0]; exact hmv.2.1.c 6 rfl
      have f6 : wr.frozen? ⟨D.d, 6, none⟩ = false := by rw [← hd0]; exact hmv.2.1.f 6 (by omega)
      have hdr : Mv wr (D.turn.stAll D.ws) (wr.setCell ⟨(D.turn.stAll D.ws).d, 6, none⟩ (.slice none 0 0)) D.sync := Mv.drop hmv.2.1
      rw [show (⟨(D.turn.stAll D.ws).d, 6, none⟩ : Addr) = ⟨D.d, 6, none⟩ by rw [hd0]] at hdr
      have HFIN := Lib.hid (hmv.trans hdr)
      clear hmv hs hd0 hdr htk
      generalize (D.turn.stAll D.ws).wv = u6 at *
      go_wp2_with fail
      go_ret
      exact ⟨rfl, HFIN.out⟩
set_option maxRecDepth 100000 in
set_option maxHeartbeats 1000000 in
theorem sync_none (D : Dk) (w : World) (h : Dsk w D) (hd : D.dn = false) (ha : ¬ D.ar = 1) (hn : D.ws = []) :
    Calls Try.prog 27 #[.pointer (some ⟨D.d, 0, none⟩)] w fun r w' => r = .returned (.int .i64 0) ∧ Mv w D w' D.sync := by
  have HH := Lib.hid h
  have Hd := Lib.hid hd
  have HA := Lib.hid ha
  have HN := Lib.hid hn
  clear h hd ha hn
  go_enter Try.func27, Try.ntmps27
  go_wp2_with fail
  refine (up_ok D _ HH.out Hd.out).mono ?_
  rintro e w1 ⟨rfl, rfl⟩
  go_wp2_with fail
  refine (turn_yes D _ HH.out HA.out).mono ?_
  rintro e w1 ⟨rfl, hm⟩
  simp only [De.v]
  have h6 : w1.cell? ⟨D.d, 6, none⟩ = some D.wv := hm.2.1.c 6 rfl
  have f6 : w1.frozen? ⟨D.d, 6, none⟩ = false := hm.2.1.f 6 (by omega)
  obtain ⟨A, cap, hwv⟩ := hm.2.1.wait_nil HN.out
  have hwv' : D.wv = .slice A 0 cap := hwv
  rw [hwv'] at h6
  have hfin : Mv w D (w1.setCell ⟨D.d, 6, none⟩ (.slice none 0 0)) D.sync := by
    have h1 := hm.trans (Mv.drop hm.2.1)
    unfold Dk.sync
    rw [HN.out]
    exact h1
  have HFIN := Lib.hid hfin
  clear hm hwv hwv' hfin
  go_wp2_with fail
  refine wp_loop_rounds 1 ?_
  rw [rounds_succ]
  go_wp2_with fail
  go_ret
  exact ⟨rfl, HFIN.out⟩
theorem sync_ok (D : Dk) (w : World) (h : Dsk w D) (hd : D.dn = false) (ha : ¬ D.ar = 1) (hws : D.ws.length ≤ 1000000) :
    Calls Try.prog 27 #[.pointer (some ⟨D.d, 0, none⟩)] w fun r w' => r = .returned (.int .i64 0) ∧ Mv w D w' D.sync := by
  rcases Nat.eq_zero_or_pos D.ws.length with h0 | h0
  · exact sync_none D w h hd ha (List.eq_nil_of_length_eq_zero h0)
  · exact sync_some D w h hd ha h0 hws
set_option maxRecDepth 100000 in
set_option maxHeartbeats 1000000 in
theorem sync_down (D : Dk) (w : World) (h : Dsk w D) (hd : D.dn = true) :
    Calls Try.prog 27 #[.pointer (some ⟨D.d, 0, none⟩)] w fun r w' => r = .returned (.int .i64 11) ∧ Mv w D w' D := by
  have HH := Lib.hid h
  have Hd := Lib.hid hd
  clear h hd
  go_enter Try.func27, Try.ntmps27
  go_wp2_with fail
  refine (up_no D _ HH.out Hd.out).mono ?_
  rintro e w1 ⟨rfl, rfl⟩
  go_wp2_with fail
  refine (told_cd 11 _ (by omega)).mono ?_
  rintro e w2 ⟨rfl, hg⟩
  go_wp2_with fail
  go_ret
  exact ⟨rfl, Mv.gr HH.out hg⟩
set_option maxRecDepth 100000 in
set_option maxHeartbeats 1000000 in
theorem sync_fall (D : Dk) (w : World) (h : Dsk w D) (hd : D.dn = false) (ha : D.ar = 1) :
    Calls Try.prog 27 #[.pointer (some ⟨D.d, 0, none⟩)] w fun r w' => r = .returned (.int .i64 11) ∧ Mv w D w' D.fall := by
  have HH := Lib.hid h
  have Hd := Lib.hid hd
  have HA := Lib.hid ha
  clear h hd ha
  go_enter Try.func27, Try.ntmps27
  go_wp2_with fail
  refine (up_ok D _ HH.out Hd.out).mono ?_
  rintro e w1 ⟨rfl, rfl⟩
  go_wp2_with fail
  refine (turn_no D _ HH.out HA.out).mono ?_
  rintro e w1 ⟨rfl, hm⟩
  simp only [De.v]
  have HM := Lib.hid hm
  clear hm
  go_wp2_with fail
  refine (told_cd 11 _ (by omega)).mono ?_
  rintro e w2 ⟨rfl, hg⟩
  go_wp2_with fail
  go_ret
  exact ⟨rfl, HM.out.trans (Mv.gr HM.out.2.1 hg)⟩
end Go.Proofs.Ytkdphgcbecldbaa
