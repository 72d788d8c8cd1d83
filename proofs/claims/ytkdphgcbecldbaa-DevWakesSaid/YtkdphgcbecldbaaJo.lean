/- Texts of the proof, one behind the other: RefG, RefH, TwA, RefI. -/
import Derived.Test.YtkdphgcbecldbaaJn
import Derived.Test.YtkdphgcbecldbaaJj
import Derived.Laws.BytesArg
/- The document's disk: Sync (64). -/
namespace Go.Proofs.Ytkdphgcbecldbaa
open Go.RowKit
def rbl (bl : Nat → List Nat) (es : List (Nat × List Nat)) : Nat → List Nat := es.foldl (fun b e => upd b e.1 (over (e.2.take (32 * 8)) (b e.1))) bl
def rhu (hu : Nat → Bool) (es : List (Nat × List Nat)) : Nat → Bool := es.foldl (fun h e => upd h e.1 false) hu
theorem rbl_snoc (bl : Nat → List Nat) (es : List (Nat × List Nat)) (e : Nat × List Nat) : rbl bl (es ++ [e]) = upd (rbl bl es) e.1 (over (e.2.take (32 * 8)) (rbl bl es e.1)) := by
  unfold rbl
  rw [List.foldl_append]
  rfl
theorem rhu_snoc (hu : Nat → Bool) (es : List (Nat × List Nat)) (e : Nat × List Nat) : rhu hu (es ++ [e]) = upd (rhu hu es) e.1 false := by
  unfold rhu
  rw [List.foldl_append]
  rfl
/-- some of the writes are stored -/
def Rk.stAll (R : Rk) (es : List (Nat × List Nat)) (vl' : Nat → Value) : Rk := { R with vl := vl', bl := rbl R.bl es, hu := rhu R.hu es }
theorem rst_snoc (R : Rk) (es : List (Nat × List Nat)) (e : Nat × List Nat) (vl1 vl2 : Nat → Value) : (R.stAll es vl1).st e.1 e.2 8 vl2 = R.stAll (es ++ [e]) vl2 := by
  unfold Rk.st Rk.stAll
  rw [rbl_snoc, rhu_snoc]
  simp
set_option maxRecDepth 100000 in
set_option maxHeartbeats 2000000 in
theorem rsync_down (R : Rk) (w : World) (h : Rsk w R) (hd : R.dn = true) : Calls Try.prog 64 #[.pointer (some ⟨R.r, 0, none⟩)] w fun r w' => r = .returned (.int .i64 11) ∧ w' = w := by
  have c5 := h.c5
  rw [hd] at c5
  clear h hd
  go_enter Try.func64, Try.ntmps64
  go_wp2_with fail
  go_ret
  exact ⟨rfl, rfl⟩
set_option maxRecDepth 100000 in
set_option maxHeartbeats 2000000 in
theorem rsync_fall (R : Rk) (w : World) (h : Rsk w R) (hd : R.dn = false) (ha : R.ar = 1) : Calls Try.prog 64 #[.pointer (some ⟨R.r, 0, none⟩)] w fun r w' => r = .returned (.int .i64 11) ∧ Rv w R w' R.fall := by
  have c5 := h.c5
  rw [hd] at c5
  have HN := Lib.hid (rturn_no R w h ha)
  clear h hd ha
  go_enter Try.func64, Try.ntmps64
  go_wp2_with fail
  refine HN.out.mono ?_
  rintro e w2 ⟨rfl, hm⟩
  have HM := Lib.hid hm
  clear hm
  go_wp2_with fail
  go_ret
  exact ⟨rfl, HM.out⟩
set_option maxRecDepth 100000 in
set_option maxHeartbeats 4000000 in
theorem rsync_ok (R : Rk) (w : World) (h : Rsk w R) (hd : R.dn = false) (ha : ¬ R.ar = 1) (hws : R.ws.length ≤ 1000000) : Calls Try.prog 64 #[.pointer (some ⟨R.r, 0, none⟩)] w fun r w' => r = .returned (.int .i64 0) ∧ ∃ vl', Rv w R w' { R.turn.stAll R.ws vl' with wv := .slice none 0 0, ws := [], wl := [] } := by
  have c5 := h.c5
  rw [hd] at c5
  have HN := Lib.hid (rturn_yes R w h ha)
  clear h hd ha
  go_enter Try.func64, Try.ntmps64
  go_wp2_with fail
  refine HN.out.mono ?_
  rintro e w2 ⟨rfl, hm⟩
  have HM := Lib.hid hm
  obtain ⟨A, cap, hwv⟩ : ∃ A cap, R.wv = .slice A R.ws.length cap := hm.sk.wvs
  have HWV := Lib.hid hwv
  clear hm hwv
  go_wp2_with fail
  go_loopw [3] (fun i wr => ∃ (q : Nat) (vl' : Nat → Value), q ≤ R.ws.length ∧ i = .int .i64 q ∧ Hid (Rv w R wr (R.turn.stAll (R.ws.take q) vl'))) (fun i _ => R.ws.length - (intOf i).toNat)
  case atStart => exact ⟨0, R.vl, by omega, rfl, HM.out⟩
  case round =>
    obtain ⟨q, vl', hq, rfl, HV⟩ := hrel
    have c1 : wr.cell? ⟨R.r, 1, none⟩ = some (.slice A R.ws.length cap) := by
      have h : wr.cell? ⟨(R.turn.stAll (R.ws.take q) vl').r, 1, none⟩ = some R.wv := HV.out.sk.c1
      rw [HWV.out] at h
      exact h
    have f1 : wr.frozen? ⟨R.r, 1, none⟩ = false := HV.out.sk.f 1
    by_cases hlt : q < R.ws.length
    · have hlt' : q < (R.turn.stAll (R.ws.take q) vl').ws.length := hlt
      obtain ⟨g, cp2, hg, hcells⟩ := HV.out.sk.wait (Nat.lt_of_le_of_lt (Nat.zero_le _) hlt')
      obtain ⟨x0, x1⟩ := hcells q hlt'
      obtain ⟨y0, y1⟩ := HV.out.sk.wsn q hlt'
      have hg' : R.wv = .slice (some ⟨g, 0, none⟩) R.ws.length cp2 := hg
      rw [HWV.out] at hg'
      injection hg' with e1 _ e3
      subst e1
      subst e3
      obtain ⟨g2, c2, hv2, _⟩ := y1.bs
      have x0' : wr.cell? ⟨g, q * 2, none⟩ = some (.int .i64 (R.ws[q].1 : Int)) := x0
      have hst := rstore_ok (R.turn.stAll (R.ws.take q) vl') R.ws[q].1 8 R.ws[q].2 _ wr HV.out.sk y0 (by omega) y1
      rw [hv2] at x1 hst
      have HST := Lib.hid hst
      have HSN : Hid (∀ vl2, (R.turn.stAll (R.ws.take q) vl').st R.ws[q].1 R.ws[q].2 8 vl2 = R.turn.stAll (R.ws.take (q + 1)) vl2) := fun vl2 => by
        rw [List.take_succ_eq_append_getElem hlt]
        exact rst_snoc R.turn (R.ws.take q) R.ws[q] vl' vl2
      clear x0 y0 y1 hcells hg hst hv2
      generalize R.ws[q] = e at *
      have b1 : (0 : Int) ≤ (q : Int) := by omega
      have b2 : (q : Int) < (R.ws.length : Int) := by omega
      go_wp2_with fail
      refine HST.out.mono ?_
      rintro r w5 ⟨rfl, vl2, hv⟩
      rw [HSN.out] at hv
      have HV2 := Lib.hid (HV.out.trans hv)
      clear hv
      go_wp2_with fail
      go_roundw
      case rel => exact ⟨q + 1, vl2, by omega, by go_num, HV2.out⟩
      case measure => simp [intOf]; omega
    · have htk : R.ws.take q = R.ws := List.take_of_length_le (by omega)
      rw [htk] at HV
      have hdr := Rv.drop HV.out.sk
      have HDR := Lib.hid (HV.out.trans hdr)
      clear htk hdr
      go_wp2_with fail
      go_ret
      exact ⟨rfl, vl', HDR.out⟩
end Go.Proofs.Ytkdphgcbecldbaa
/- The document's disk: Wake (68). -/
namespace Go.Proofs.Ytkdphgcbecldbaa
open Go.RowKit
def wkh (stay torn part : Int) (hu : Nat → Bool) (es : List (Nat × List Nat)) : Nat → Bool :=
  es.zipIdx.foldl (fun h p => match wkn stay torn part p.2 with | some m => (if m = 8 then upd h p.1.1 false else h) | none => h) hu
theorem wkb_snoc (a b c : Int) (bl : Nat → List Nat) (es : List (Nat × List Nat)) (e : Nat × List Nat) : wkb a b c bl (es ++ [e]) = match wkn a b c es.length with | some m => upd (wkb a b c bl es) e.1 (over (e.2.take (32 * m)) (wkb a b c bl es e.1)) | none => wkb a b c bl es := by
  unfold wkb
  rw [List.zipIdx_append, List.foldl_append]
  simp only [List.zipIdx_cons, List.zipIdx_nil, List.foldl_cons, List.foldl_nil, Nat.zero_add]
  cases wkn a b c es.length <;> rfl
theorem wkh_snoc (a b c : Int) (hu : Nat → Bool) (es : List (Nat × List Nat)) (e : Nat × List Nat) : wkh a b c hu (es ++ [e]) = match wkn a b c es.length with | some m => (if m = 8 then upd (wkh a b c hu es) e.1 false else wkh a b c hu es) | none => wkh a b c hu es := by
  unfold wkh
  rw [List.zipIdx_append, List.foldl_append]
  simp only [List.zipIdx_cons, List.zipIdx_nil, List.foldl_cons, List.foldl_nil, Nat.zero_add]
def Rk.wkAll (R : Rk) (a b c : Int) (es : List (Nat × List Nat)) (vl' : Nat → Value) : Rk := { R with vl := vl', bl := wkb a b c R.bl es, hu := wkh a b c R.hu es }
theorem rwk_some (R : Rk) (a b c : Int) (es : List (Nat × List Nat)) (e : Nat × List Nat) (m : Nat) (vl1 vl2 : Nat → Value) (h : wkn a b c es.length = some m) : (R.wkAll a b c es vl1).st e.1 e.2 m vl2 = R.wkAll a b c (es ++ [e]) vl2 := by
  unfold Rk.st Rk.wkAll
  rw [wkb_snoc, wkh_snoc, h]
theorem rwk_none (R : Rk) (a b c : Int) (es : List (Nat × List Nat)) (e : Nat × List Nat) (vl1 : Nat → Value) (h : wkn a b c es.length = none) : R.wkAll a b c es vl1 = R.wkAll a b c (es ++ [e]) vl1 := by
  unfold Rk.wkAll
  rw [wkb_snoc, wkh_snoc, h]
theorem rwk_nil (R : Rk) (a b c : Int) : R.wkAll a b c [] R.vl = R := by cases R; rfl
theorem mod_nine (c : Int) : c.tmod 9 % 9 = c % 9 := by
  have hq3 : c % 9 = c.tmod 9 + if 0 ≤ c ∨ (9 : Int) ∣ c then 0 else (9 : Int).natAbs := Int.emod_eq_tmod
  have hq4 := Int.emod_nonneg c (show (9 : Int) ≠ 0 by omega)
  have hq5 := Int.emod_lt_of_pos c (show (0 : Int) < 9 by omega)
  generalize c.tmod 9 = t at *
  split at hq3 <;> omega
set_option maxRecDepth 100000 in
set_option maxHeartbeats 2000000 in
theorem rwake_up (R : Rk) (a b c : Int) (w : World) (h : Rsk w R) (hd : R.dn = false) : Calls Try.prog 68 #[.pointer (some ⟨R.r, 0, none⟩), .int .i64 a, .int .i64 b, .int .i64 c] w fun r w' => r = .returned (.int .i64 16) ∧ w' = w := by
  have c5 := h.c5
  rw [hd] at c5
  clear h hd
  go_enter Try.func68, Try.ntmps68
  go_wp2_with fail
  go_ret
  exact ⟨rfl, rfl⟩
set_option maxRecDepth 100000 in
set_option maxHeartbeats 4000000 in
theorem rwake_ok (R : Rk) (a b c : Int) (w : World) (h : Rsk w R) (hd : R.dn = true) (hws : R.ws.length ≤ 1000000) : Calls Try.prog 68 #[.pointer (some ⟨R.r, 0, none⟩), .int .i64 a, .int .i64 b, .int .i64 c] w fun r w' => r = .returned (.int .i64 0) ∧ ∃ vl', Rv w R w' { R.wkAll a b c R.ws vl' with wv := .slice none 0 0, ws := [], wl := [], ar := 0, dn := false } := by
  have c5 := h.c5
  rw [hd] at c5
  obtain ⟨A, cap, hwv⟩ : ∃ A cap, R.wv = .slice A R.ws.length cap := h.wvs
  have HWV := Lib.hid hwv
  have HM : Hid (Rv w R w R) := Rv.refl h
  clear h hd hwv
  go_enter Try.func68, Try.ntmps68
  go_wp2_with fail
  go_loopw [9] (fun i wr => ∃ (q : Nat) (vl' : Nat → Value), q ≤ R.ws.length ∧ i = .int .i64 q ∧ Hid (Rv w R wr (R.wkAll a b c (R.ws.take q) vl'))) (fun i _ => R.ws.length - (intOf i).toNat)
  case atStart => exact ⟨0, R.vl, by omega, rfl, by rw [List.take_zero, rwk_nil]; exact HM.out⟩
  case round =>
    obtain ⟨q, vl', hq, rfl, HV⟩ := hrel
    have c1 : wr.cell? ⟨R.r, 1, none⟩ = some (.slice A R.ws.length cap) := by
      have h : wr.cell? ⟨(R.wkAll a b c (R.ws.take q) vl').r, 1, none⟩ = some R.wv := HV.out.sk.c1
      rw [HWV.out] at h
      exact h
    have c2 : wr.cell? ⟨R.r, 2, none⟩ = some (.int .i64 R.ar) := HV.out.sk.c2
    have c5' : wr.cell? ⟨R.r, 5, none⟩ = some (.bool R.dn) := HV.out.sk.c5
    have f1 : ∀ j, wr.frozen? ⟨R.r, j, none⟩ = false := HV.out.sk.f
    by_cases hlt : q < R.ws.length
    · have hlt' : q < (R.wkAll a b c (R.ws.take q) vl').ws.length := hlt
      obtain ⟨g, cp2, hg, hcells⟩ := HV.out.sk.wait (Nat.lt_of_le_of_lt (Nat.zero_le _) hlt')
      obtain ⟨x0, x1⟩ := hcells q hlt'
      obtain ⟨y0, y1⟩ := HV.out.sk.wsn q hlt'
      have hg' : R.wv = .slice (some ⟨g, 0, none⟩) R.ws.length cp2 := hg
      rw [HWV.out] at hg'
      injection hg' with e1 _ e3
      subst e1
      subst e3
      obtain ⟨g2, c2', hv2, _⟩ := y1.bs
      have x0' : wr.cell? ⟨g, q * 2, none⟩ = some (.int .i64 (R.ws[q].1 : Int)) := x0
      rw [hv2] at x1 y1
      obtain ⟨E, hE⟩ : ∃ E, E = R.wkAll a b c (R.ws.take q) vl' := ⟨_, rfl⟩
      have er : E.r = R.r := by rw [hE]; rfl
      have hsk := HV.out.sk
      have y0' : R.ws[q].1 < E.k := by rw [hE]; exact y0
      rw [← hE] at hsk
      have HST : Hid (∀ m : Nat, m ≤ 8 → Calls Try.prog 82 #[.pointer (some ⟨R.r, 0, none⟩), .agg #[.int .i64 (R.ws[q].1 : Int), .slice (some ⟨g2, 0, none⟩) 256 c2'], .int .i64 m] wr fun r w' => r = .returned (.tuple #[]) ∧ ∃ vl2, Rv wr E w' (E.st R.ws[q].1 R.ws[q].2 m vl2)) := fun (m : Nat) (hm : m ≤ 8) => by
        have := rstore_ok E R.ws[q].1 m R.ws[q].2 (.slice (some ⟨g2, 0, none⟩) 256 c2') wr hsk y0' hm y1
        rw [er] at this
        exact this
      have htl : (R.ws.take q).length = q := by rw [List.length_take]; omega
      have HSO : Hid (∀ (m : Nat) (vl2 : Nat → Value), wkn a b c q = some m → E.st R.ws[q].1 R.ws[q].2 m vl2 = R.wkAll a b c (R.ws.take (q + 1)) vl2) := fun m vl2 hm => by
        rw [hE, List.take_succ_eq_append_getElem hlt]
        exact rwk_some R a b c (R.ws.take q) R.ws[q] m vl' vl2 (by rw [htl]; exact hm)
      have HNO : Hid (wkn a b c q = none → E = R.wkAll a b c (R.ws.take (q + 1)) vl') := fun hm => by
        rw [hE, List.take_succ_eq_append_getElem hlt]
        exact rwk_none R a b c (R.ws.take q) R.ws[q] vl' (by rw [htl]; exact hm)
      rw [← hE] at HV
      clear x0 y0 y1 hcells hg hv2 htl hsk y0' er hE
      generalize R.ws[q] = e at *
      have b1 : (0 : Int) ≤ (q : Int) := by omega
      have b2 : (q : Int) < (R.ws.length : Int) := by omega
      by_cases ht : (q : Int) = b
      · have ht1 : ((q : Int) == b) = true := by simpa using ht
        obtain ⟨m, hm⟩ : ∃ m : Nat, c % 9 = (m : Int) := ⟨(c % 9).toNat, by have := Int.emod_nonneg c (show (9 : Int) ≠ 0 by omega); omega⟩
        have hm8 : m ≤ 8 := by have := Int.emod_lt_of_pos c (show (0 : Int) < 9 by omega); omega
        have HWK : Hid (wkn a b c q = some m) := by
          show _ = _
          unfold wkn
          rw [if_pos ht, hm, Int.toNat_natCast]
        have hmod : c.tmod 9 % 9 = (m : Int) := by rw [mod_nine, hm]
        have hq1 : -9 < c.tmod 9 := by
          have h := Int.tmod_lt_of_pos (-c) (show (0 : Int) < 9 by omega)
          rw [Int.neg_tmod] at h; omega
        have hq2 : c.tmod 9 < 9 := Int.tmod_lt_of_pos c (by omega)
        have HMOD := Lib.hid hmod
        clear hm ht hmod
        go_wp2_with fail
        rw [HMOD.out]
        refine (HST.out m hm8).mono ?_
        rintro r w5 ⟨rfl, vl2, hv⟩
        rw [HSO.out m vl2 HWK.out] at hv
        have HV2 := Lib.hid (HV.out.trans hv)
        clear hv
        go_wp2_with fail
        go_roundw
        case rel => exact ⟨q + 1, vl2, by omega, by go_num, HV2.out⟩
        case measure => simp [intOf]; omega
      · have ht1 : ((q : Int) == b) = false := by simpa using ht
        by_cases hb : a / 2 ^ (q % 60) % 2 = 1
        · have HWK : Hid (wkn a b c q = some 8) := by
            show _ = _
            unfold wkn
            rw [if_neg ht, if_pos hb]
          have hb1 : (bits .and .i64 (a / 2 ^ (q % 60)) 1 == 1) = true := by rw [and1_int, hb]; rfl
          clear hb ht
          go_wp2_with fail
          refine (HST.out 8 (by omega)).mono ?_
          rintro r w5 ⟨rfl, vl2, hv⟩
          rw [HSO.out 8 vl2 HWK.out] at hv
          have HV2 := Lib.hid (HV.out.trans hv)
          clear hv
          go_wp2_with fail
          go_roundw
          case rel => exact ⟨q + 1, vl2, by omega, by go_num, HV2.out⟩
          case measure => simp [intOf]; omega
        · have HWK : Hid (wkn a b c q = none) := by
            show _ = _
            unfold wkn
            rw [if_neg ht, if_neg hb]
          have hb1 : (bits .and .i64 (a / 2 ^ (q % 60)) 1 == 1) = false := by rw [and1_int]; simpa using hb
          clear hb ht
          go_wp2_with fail
          go_roundw
          case rel => exact ⟨q + 1, vl', by omega, by go_num, by rw [← HNO.out HWK.out]; exact HV.out⟩
          case measure => simp [intOf]; omega
    · have htk : R.ws.take q = R.ws := List.take_of_length_le (by omega)
      rw [htk] at HV
      have m1 := HV.out.trans (Rv.drop HV.out.sk)
      have m2 := m1.trans (Rv.put (R' := { R.wkAll a b c R.ws vl' with wv := .slice none 0 0, ws := [], wl := [], ar := 0 }) m1.sk 2 (.int .i64 0) rfl (by simp) rfl)
      have m3 := m2.trans (Rv.put (R' := { R.wkAll a b c R.ws vl' with wv := .slice none 0 0, ws := [], wl := [], ar := 0, dn := false }) m2.sk 5 (.bool false) rfl (by simp) rfl)
      have HDR := Lib.hid m3
      clear htk m1 m2 m3
      go_wp2_with fail
      go_ret
      exact ⟨rfl, vl', HDR.out⟩
end Go.Proofs.Ytkdphgcbecldbaa
/- Both disks: what they hold, what a deed makes of it; the disk's own deeds told so. No program in sight but for its contracts. -/
namespace Go.Proofs.Ytkdphgcbecldbaa
open Go.RowKit
/-- what a disk holds -/
structure St where
  k : Nat
  tu : Int
  cr : Int
  ar : Int
  dn : Bool
  bl : Nat → List Nat
  hu : Nat → Bool
  ws : List (Nat × List Nat)
def St.fall (s : St) : St := { s with ar := 0, dn := true, cr := wrap64 (s.cr + 1) }
def St.turn (s : St) : St := { s with ar := max (s.ar - 1) 0, tu := wrap64 (s.tu + 1) }
def St.wr (s : St) (n : Int) (l : List Nat) : Int × St := if s.dn = true then (11, s) else if n < 0 ∨ (s.k : Int) ≤ n ∨ 256 < l.length then (2, s) else if s.ar = 1 then (11, s.fall) else (0, { s.turn with ws := s.ws ++ [(n.toNat, pad l)] })
def St.sy (s : St) : Int × St := if s.dn = true then (11, s) else if s.ar = 1 then (11, s.fall) else (0, { s.turn with bl := rbl s.bl s.ws, hu := rhu s.hu s.ws, ws := [] })
def St.am (s : St) (n : Int) : St := if s.dn = true then s else { s with ar := max n 0 }
def St.cs (s : St) : Int × St := if s.dn = true then (11, s) else (0, s.fall)
def St.wk (s : St) (a b c : Int) : Int × St := if s.dn = true then (0, { s with bl := wkb a b c s.bl s.ws, hu := wkh a b c s.hu s.ws, ws := [], ar := 0, dn := false }) else (16, s)
def St.be (s : St) (n : Nat) (l : List Nat) : Int × St := if l = s.bl n then (2, s) else if s.hu n = true then (16, s) else (0, { s with bl := upd s.bl n l, hu := upd s.hu n true })
def St.ro (s : St) (n bit : Int) (m : Nat) : Int × St := if n < 0 ∨ (s.k : Int) ≤ n ∨ bit < 0 ∨ 2048 ≤ bit then (2, s) else s.be n.toNat (rotB (s.bl n.toNat) bit.toNat m)
def St.wi (s : St) (n : Int) : Int × St := if n < 0 ∨ (s.k : Int) ≤ n then (2, s) else s.be n.toNat (Z 256)
def Dk.s (D : Dk) : St := ⟨D.k, D.tu, D.cr, if D.dn = true then 0 else D.ar, D.dn, D.bl, D.hu, D.ws⟩
def Rk.s (R : Rk) : St := ⟨R.k, R.tu, R.cr, if R.dn = true then 0 else R.ar, R.dn, R.bl, R.hu, R.ws⟩
theorem Dk.s_up {D : Dk} (h : D.dn = false) : D.s = ⟨D.k, D.tu, D.cr, D.ar, false, D.bl, D.hu, D.ws⟩ := by
  unfold Dk.s
  rw [h, if_neg (by decide)]
theorem Rk.s_up {R : Rk} (h : R.dn = false) : R.s = ⟨R.k, R.tu, R.cr, R.ar, false, R.bl, R.hu, R.ws⟩ := by
  unfold Rk.s
  rw [h, if_neg (by decide)]
theorem stAll_s : ∀ (es : List (Nat × List Nat)) (D : Dk), (D.stAll es).bl = rbl D.bl es ∧ (D.stAll es).hu = rhu D.hu es
  | [], _ => ⟨rfl, rfl⟩
  | e :: r, D => by
    have h := stAll_s r (D.st e.1 e.2 8)
    refine ⟨h.1, h.2.trans ?_⟩
    show rhu (if 8 = 8 then upd D.hu e.1 false else D.hu) r = rhu (upd D.hu e.1 false) r
    rw [if_pos rfl]
theorem wkAll_s (D : Dk) (a b c : Int) (es : List (Nat × List Nat)) : (D.wkAll a b c es).hu = wkh a b c D.hu es ∧ (D.wkAll a b c es).tu = D.tu ∧ (D.wkAll a b c es).cr = D.cr := by
  unfold Dk.wkAll wkh
  generalize es.zipIdx = ps
  induction ps generalizing D with
  | nil => exact ⟨rfl, rfl, rfl⟩
  | cons p r ih =>
    rw [List.foldl_cons, List.foldl_cons]
    obtain ⟨h1, h2, h3⟩ := ih (D.wk1 a b c p.2 p.1)
    refine ⟨h1.trans ?_, h2.trans ?_, h3.trans ?_⟩
    · congr 1
      unfold Dk.wk1
      cases wkn a b c p.2 <;> rfl
    · unfold Dk.wk1
      cases wkn a b c p.2 <;> rfl
    · unfold Dk.wk1
      cases wkn a b c p.2 <;> rfl
theorem ndn {b : Bool} (h : b = false) : ¬ b = true := by rw [h]; decide
/-- the disk's deeds -/
theorem d_wr (D : Dk) (n : Int) (A : Option Addr) (len c : Nat) (l : List Nat) (B : Nat) (w : World) (h : Dsk w D) (hb : Bs w B ⟨A, len, c⟩ l) (hB : B ≤ w.heap.size) (hf : 0 < len → ∀ b o, A = some ⟨b, o, none⟩ → ¬ D.fp b) (hws : D.ws.length ≤ 1000000) :
    Calls Try.prog 26 #[.pointer (some ⟨D.d, 0, none⟩), .int .i64 n, .slice A len c] w fun r w' => r = .returned (.int .i64 (D.s.wr n l).1) ∧ ∃ D', Mv w D w' D' ∧ D'.s = (D.s.wr n l).2 := by
  have hlen : len = l.length := hb.1
  cases hd : D.dn with
  | true =>
    refine (write_down D n _ w h hd).mono ?_
    rintro r w' ⟨rfl, hm⟩
    have e : D.s.wr n l = (11, D.s) := if_pos hd
    rw [e]
    exact ⟨rfl, D, hm, rfl⟩
  | false =>
    have e0 : ¬ D.s.dn = true := ndn hd
    by_cases hn : n < 0 ∨ (D.k : Int) ≤ n
    · refine (write_out D n _ w h hd hn).mono ?_
      rintro r w' ⟨rfl, hm⟩
      have e : D.s.wr n l = (2, D.s) := by unfold St.wr; rw [if_neg e0, if_pos (by show n < 0 ∨ (D.k : Int) ≤ n ∨ _; omega)]
      rw [e]
      exact ⟨rfl, D, hm, rfl⟩
    · by_cases hl : 256 < len
      · refine (write_long D n A len c w h hd (by omega) (by omega) hl).mono ?_
        rintro r w' ⟨rfl, hm⟩
        have e : D.s.wr n l = (2, D.s) := by unfold St.wr; rw [if_neg e0, if_pos (by show n < 0 ∨ (D.k : Int) ≤ n ∨ _; omega)]
        rw [e]
        exact ⟨rfl, D, hm, rfl⟩
      · have e1 : ¬ (n < 0 ∨ (D.s.k : Int) ≤ n ∨ 256 < l.length) := by show ¬ (n < 0 ∨ (D.k : Int) ≤ n ∨ _); omega
        have ea : D.s.ar = D.ar := by rw [Dk.s_up hd]
        by_cases ha : D.ar = 1
        · refine (write_fall D n A len c w h hd (by omega) (by omega) (by omega) ha).mono ?_
          rintro r w' ⟨rfl, hm⟩
          have e : D.s.wr n l = (11, D.s.fall) := by unfold St.wr; rw [if_neg e0, if_neg e1, if_pos (ea.trans ha)]
          rw [e]
          exact ⟨rfl, _, hm, rfl⟩
        · obtain ⟨m, rfl⟩ : ∃ m : Nat, n = (m : Int) := ⟨n.toNat, by omega⟩
          refine (write_ok D m A len c l B w h hb hB hf hd (by omega) (by omega) ha hws).mono ?_
          rintro r w' ⟨rfl, v, hm⟩
          have e : D.s.wr m l = (0, { D.s.turn with ws := D.s.ws ++ [((m : Int).toNat, pad l)] }) := by unfold St.wr; rw [if_neg e0, if_neg e1, if_neg (by rw [ea]; exact ha)]
          rw [e]
          refine ⟨rfl, _, hm, ?_⟩
          rw [Dk.s_up (D := { D.turn with wv := v, ws := D.ws ++ [(m, pad l)] }) hd, Dk.s_up hd]
          rfl
theorem d_sy (D : Dk) (w : World) (h : Dsk w D) (hws : D.ws.length ≤ 1000000) :
    Calls Try.prog 27 #[.pointer (some ⟨D.d, 0, none⟩)] w fun r w' => r = .returned (.int .i64 D.s.sy.1) ∧ ∃ D', Mv w D w' D' ∧ D'.s = D.s.sy.2 := by
  cases hd : D.dn with
  | true =>
    refine (sync_down D w h hd).mono ?_
    rintro r w' ⟨rfl, hm⟩
    have e : D.s.sy = (11, D.s) := if_pos hd
    rw [e]
    exact ⟨rfl, D, hm, rfl⟩
  | false =>
    have e0 : ¬ D.s.dn = true := ndn hd
    have ea : D.s.ar = D.ar := by rw [Dk.s_up hd]
    by_cases ha : D.ar = 1
    · refine (sync_fall D w h hd ha).mono ?_
      rintro r w' ⟨rfl, hm⟩
      have e : D.s.sy = (11, D.s.fall) := by unfold St.sy; rw [if_neg e0, if_pos (ea.trans ha)]
      rw [e]
      exact ⟨rfl, _, hm, rfl⟩
    · refine (sync_ok D w h hd ha hws).mono ?_
      rintro r w' ⟨rfl, hm⟩
      have e : D.s.sy = (0, { D.s.turn with bl := rbl D.s.bl D.s.ws, hu := rhu D.s.hu D.s.ws, ws := [] }) := by unfold St.sy; rw [if_neg e0, if_neg (by rw [ea]; exact ha)]
      rw [e]
      refine ⟨rfl, _, hm, ?_⟩
      obtain ⟨s1, s2, s3, s4, s5, s6, s7, s8⟩ := stAll_same D.ws D.turn
      obtain ⟨t1, t2⟩ := stAll_s D.ws D.turn
      rw [Dk.s_up (D := D.sync) (s6.trans hd), Dk.s_up hd]
      show St.mk (D.turn.stAll D.ws).k (D.turn.stAll D.ws).tu (D.turn.stAll D.ws).cr (D.turn.stAll D.ws).ar false (D.turn.stAll D.ws).bl (D.turn.stAll D.ws).hu [] = _
      rw [s2, s7, s8, s5, t1, t2]
      rfl
theorem d_am (D : Dk) (n : Int) (w : World) (h : Dsk w D) (hn : n ≤ 9223372036854775807) :
    Calls Try.prog 65 #[.pointer (some ⟨D.d, 0, none⟩), .int .i64 n] w fun r w' => r = .returned (.tuple #[]) ∧ ∃ D', Mv w D w' D' ∧ D'.s = D.s.am n := by
  cases hd : D.dn with
  | true =>
    refine (arm_down D n w h hd).mono ?_
    rintro r w' ⟨rfl, hm⟩
    have e : D.s.am n = D.s := if_pos hd
    rw [e]
    exact ⟨rfl, D, hm, rfl⟩
  | false =>
    refine (arm_ok D n w h hd hn).mono ?_
    rintro r w' ⟨rfl, hm⟩
    have e : D.s.am n = { D.s with ar := max n 0 } := if_neg (ndn hd)
    rw [e]
    refine ⟨rfl, _, hm, ?_⟩
    rw [Dk.s_up (D := { D with ar := max n 0 }) hd, Dk.s_up hd]
theorem d_cs (D : Dk) (w : World) (h : Dsk w D) :
    Calls Try.prog 30 #[.pointer (some ⟨D.d, 0, none⟩)] w fun r w' => r = .returned (.int .i64 D.s.cs.1) ∧ ∃ D', Mv w D w' D' ∧ D'.s = D.s.cs.2 := by
  cases hd : D.dn with
  | true =>
    refine (crash_down D w h hd).mono ?_
    rintro r w' ⟨rfl, hm⟩
    have e : D.s.cs = (11, D.s) := if_pos hd
    rw [e]
    exact ⟨rfl, D, hm, rfl⟩
  | false =>
    refine (crash_ok D w h hd).mono ?_
    rintro r w' ⟨rfl, hm⟩
    have e : D.s.cs = (0, D.s.fall) := if_neg (ndn hd)
    rw [e]
    exact ⟨rfl, _, hm, rfl⟩
theorem d_wk (D : Dk) (a b c : Int) (w : World) (h : Dsk w D) (hws : D.ws.length ≤ 1000000) :
    Calls Try.prog 31 #[.pointer (some ⟨D.d, 0, none⟩), .int .i64 a, .int .i64 b, .int .i64 c] w fun r w' => r = .returned (.int .i64 (D.s.wk a b c).1) ∧ ∃ D', Mv w D w' D' ∧ D'.s = (D.s.wk a b c).2 := by
  cases hd : D.dn with
  | true =>
    refine (wake_ok D a b c w h hd hws).mono ?_
    rintro r w' ⟨rfl, hm⟩
    have e : D.s.wk a b c = (0, { D.s with bl := wkb a b c D.s.bl D.s.ws, hu := wkh a b c D.s.hu D.s.ws, ws := [], ar := 0, dn := false }) := if_pos hd
    rw [e]
    refine ⟨rfl, _, hm, ?_⟩
    obtain ⟨t1, t2, t3⟩ := wkAll_s D a b c D.ws
    rw [Dk.s_up (D := D.wake a b c) rfl]
    show St.mk (D.wkAll a b c D.ws).k (D.wkAll a b c D.ws).tu (D.wkAll a b c D.ws).cr 0 false (D.wkAll a b c D.ws).bl (D.wkAll a b c D.ws).hu [] = _
    rw [(wkAll_same D a b c D.ws).2.1, t1, t2, t3, wkAll_bl]
    rfl
  | false =>
    refine (wake_up D a b c w h hd).mono ?_
    rintro r w' ⟨rfl, hm⟩
    have e : D.s.wk a b c = (16, D.s) := if_neg (ndn hd)
    rw [e]
    exact ⟨rfl, D, hm, rfl⟩
theorem d_ro (D : Dk) (n bit : Int) (m : Nat) (w : World) (h : Dsk w D) (hm : m < 4294967296) :
    Calls Try.prog 35 #[.pointer (some ⟨D.d, 0, none⟩), .int .i64 n, .int .i64 bit, .int .u32 m] w fun r w' => r = .returned (.int .i64 (D.s.ro n bit m).1) ∧ ∃ D', Mv w D w' D' ∧ D'.s = (D.s.ro n bit m).2 := by
  by_cases hn : n < 0 ∨ (D.k : Int) ≤ n
  · refine (rot_out D n bit m w h hn).mono ?_
    rintro r w' ⟨rfl, hm⟩
    have e : D.s.ro n bit m = (2, D.s) := if_pos (by show n < 0 ∨ (D.k : Int) ≤ n ∨ _; omega)
    rw [e]
    exact ⟨rfl, D, hm, rfl⟩
  · by_cases hb : bit < 0 ∨ 2048 ≤ bit
    · refine (rot_far D n bit m w h (by omega) (by omega) hb).mono ?_
      rintro r w' ⟨rfl, hm⟩
      have e : D.s.ro n bit m = (2, D.s) := if_pos (by show n < 0 ∨ (D.k : Int) ≤ n ∨ _; omega)
      rw [e]
      exact ⟨rfl, D, hm, rfl⟩
    · obtain ⟨q, rfl⟩ : ∃ q : Nat, n = (q : Int) := ⟨n.toNat, by omega⟩
      obtain ⟨t, rfl⟩ : ∃ t : Nat, bit = (t : Int) := ⟨bit.toNat, by omega⟩
      have e : D.s.ro q t m = D.s.be q (rotB (D.bl q) t m) := if_neg (by show ¬ ((q : Int) < 0 ∨ (D.k : Int) ≤ q ∨ _); omega)
      rw [e]
      by_cases hr : rotB (D.bl q) t m = D.bl q
      · refine (rot_same D q t m w h (by omega) (by omega) hm hr).mono ?_
        rintro r w' ⟨rfl, hm⟩
        have e : D.s.be q (rotB (D.bl q) t m) = (2, D.s) := if_pos hr
        rw [e]
        exact ⟨rfl, D, hm, rfl⟩
      · cases hh : D.hu q with
        | true =>
          refine (rot_hurt D q t m w h (by omega) (by omega) hm hr hh).mono ?_
          rintro r w' ⟨rfl, hm⟩
          have e : D.s.be q (rotB (D.bl q) t m) = (16, D.s) := (if_neg hr).trans (if_pos hh)
          rw [e]
          exact ⟨rfl, D, hm, rfl⟩
        | false =>
          refine (rot_ok D q t m w h (by omega) (by omega) hm hr hh).mono ?_
          rintro r w' ⟨rfl, hm⟩
          have e : D.s.be q (rotB (D.bl q) t m) = (0, { D.s with bl := upd D.s.bl q (rotB (D.bl q) t m), hu := upd D.s.hu q true }) := (if_neg hr).trans (if_neg (ndn hh))
          rw [e]
          exact ⟨rfl, _, hm, rfl⟩
theorem d_wi (D : Dk) (n : Int) (w : World) (h : Dsk w D) :
    Calls Try.prog 36 #[.pointer (some ⟨D.d, 0, none⟩), .int .i64 n] w fun r w' => r = .returned (.int .i64 (D.s.wi n).1) ∧ ∃ D', Mv w D w' D' ∧ D'.s = (D.s.wi n).2 := by
  by_cases hn : n < 0 ∨ (D.k : Int) ≤ n
  · refine (wipe_out D n w h hn).mono ?_
    rintro r w' ⟨rfl, hm⟩
    have e : D.s.wi n = (2, D.s) := if_pos hn
    rw [e]
    exact ⟨rfl, D, hm, rfl⟩
  · obtain ⟨q, rfl⟩ : ∃ q : Nat, n = (q : Int) := ⟨n.toNat, by omega⟩
    have e : D.s.wi q = D.s.be q (Z 256) := if_neg hn
    rw [e]
    by_cases hr : Z 256 = D.bl q
    · refine (wipe_same D q w h (by omega) hr).mono ?_
      rintro r w' ⟨rfl, hm⟩
      have e : D.s.be q (Z 256) = (2, D.s) := if_pos hr
      rw [e]
      exact ⟨rfl, D, hm, rfl⟩
    · cases hh : D.hu q with
      | true =>
        refine (wipe_hurt D q w h (by omega) hr hh).mono ?_
        rintro r w' ⟨rfl, hm⟩
        have e : D.s.be q (Z 256) = (16, D.s) := (if_neg hr).trans (if_pos hh)
        rw [e]
        exact ⟨rfl, D, hm, rfl⟩
      | false =>
        refine (wipe_ok D q w h (by omega) hr hh).mono ?_
        rintro r w' ⟨rfl, hm⟩
        have e : D.s.be q (Z 256) = (0, { D.s with bl := upd D.s.bl q (Z 256), hu := upd D.s.hu q true }) := (if_neg hr).trans (if_neg (ndn hh))
        rw [e]
        exact ⟨rfl, _, hm, rfl⟩
end Go.Proofs.Ytkdphgcbecldbaa
/- The document's disk: same (86), hurt (83). -/
namespace Go.Proofs.Ytkdphgcbecldbaa
open Go.RowKit
def strOf (l : List Nat) : ByteArray := strOfNums (l.map fun x : Nat => (x : Int))
theorem strOf_nums {a : List Nat} (ha : Small a) : (strOf a).data.toList.map (fun x => x.toNat) = a := by
  rw [strOf, strOfNums_data, List.map_map, List.map_map]
  conv => rhs; rw [← List.map_id a]
  apply List.map_congr_left
  intro x hx
  have := ha x hx
  simp [Nat.mod_eq_of_lt this]
theorem strOf_inj {a b : List Nat} (ha : Small a) (hb : Small b) (h : strOf a = strOf b) : a = b := by
  rw [← strOf_nums ha, ← strOf_nums hb, h]
theorem conv_bs {w : World} {B g c : Nat} {l : List Nat} (h : Bs w B ⟨some ⟨g, 0, none⟩, 256, c⟩ l) : (convert 24 9 (.slice (some ⟨g, 0, none⟩) 256 c)).run Try.prog w = .ok (.string (strOf l)) w := by
  refine run_convert_bytes_arg w 24 5 Try.underlying24 Try.underlying5 g 0 256 c (l.map fun x : Nat => (x : Int)) (by rw [List.length_map]; exact h.1.symm) (fun i hi => ?_) 9 Try.underlying9
  have hl : 256 = l.length := h.1
  have hu : (bvs l)[i]? = some (.int .u8 ((l.getD i 0 : Nat) : Int)) := by
    unfold bvs
    rw [List.getElem?_map, List.getElem?_eq_getElem (by omega), List.getD_eq_getElem?_getD, List.getElem?_eq_getElem (by omega)]
    rfl
  have := bs_cells h ⟨g, 0, none⟩ rfl i _ hu
  rw [Addr.add_lit] at this
  rw [this, List.getD_eq_getElem?_getD, List.getD_eq_getElem?_getD, List.getElem?_map, List.getElem?_eq_getElem (by omega)]
  rfl
set_option maxRecDepth 100000 in
set_option maxHeartbeats 1000000 in
theorem rsame_any {v1 v2 : Value} {l1 l2 : List Nat} (w : World) (h1 : RB w v1 l1) (h2 : RB w v2 l2) : Calls Try.prog 86 #[v1, v2] w fun r w' => r = .returned (.bool (decide (l1 = l2))) ∧ w' = w := by
  obtain ⟨g1, c1, rfl, _, _, b1⟩ := h1.bs
  obtain ⟨g2, c2, rfl, _, _, b2⟩ := h2.bs
  have k1 := conv_bs b1
  have k2 := conv_bs b2
  have he : decide (l1 = l2) = ((strOf l1).toList == (strOf l2).toList) := by
    have e1 := ByteArray.toList_eq (strOf l1)
    have e2 := ByteArray.toList_eq (strOf l2)
    by_cases e : l1 = l2
    · rw [decide_eq_true e, e]
      exact (beq_self_eq_true _).symm
    · rw [decide_eq_false e, e1, e2]
      symm
      refine beq_eq_false_iff_ne.2 fun hh => e ?_
      rw [← strOf_nums b1.2.1, ← strOf_nums b2.2.1, hh]
  rw [he]
  clear h1 h2 b1 b2 he
  generalize strOf l1 = s1 at *
  generalize strOf l2 = s2 at *
  go_enter Try.func86, Try.ntmps86
  go_wp2_with fail
  go_ret
  exact ⟨rfl, rfl⟩
/-- a block becomes other bytes -/
def Rk.be (R : Rk) (n : Nat) (v : Value) (l : List Nat) : Rk := { R with vl := upd R.vl n v, bl := upd R.bl n l, hu := upd R.hu n true }
set_option maxRecDepth 100000 in
set_option maxHeartbeats 2000000 in
theorem rhurt_any (w0 : World) (R0 R : Rk) (n : Nat) (v : Value) (l : List Nat) (w : World) (h0 : Rv w0 R0 w R) (hn : n < R.k) (hv : RB w v l) (hnew : ∀ b, v.ownBlock = some b → w0.heap.size ≤ b) :
    Calls Try.prog 83 #[.pointer (some ⟨R.r, 0, none⟩), .int .i64 n, v] w fun r w' => r = .returned (.int .i64 (R.s.be n l).1) ∧ ∃ R', Rv w0 R0 w' R' ∧ R'.s = (R.s.be n l).2 := by
  have c0 := h0.sk.c0
  obtain ⟨cn, hn1, fz⟩ := h0.sk.cv hn
  have hb0 := h0.sk.blk n hn
  have hsm := rsame_any w hv hb0
  obtain ⟨g, c, hvl, hc1, hc2, hbs⟩ := hb0.bs
  obtain ⟨g2, c2, rfl, hc3, hc4, hbs2⟩ := hv.bs
  rw [hvl] at cn hsm
  have HS := Lib.hid hsm
  have HBE : Hid (R.s.be n l = if l = R.bl n then (2, R.s) else if R.hu n = true then (16, R.s) else (0, { R.s with bl := upd R.s.bl n l, hu := upd R.s.hu n true })) := rfl
  have HM := Lib.hid h0
  have m1 := Rv.block h0 hn hv hnew
  have m2 := m1.trans (Rv.hurt m1.sk hn true)
  have HM2 := Lib.hid m2
  have HSE : Hid ({ { R with vl := upd R.vl n (.slice (some ⟨g2, 0, none⟩) 256 c2), bl := upd R.bl n l } with hu := upd R.hu n true : Rk }.s = { R.s with bl := upd R.s.bl n l, hu := upd R.s.hu n true }) := rfl
  have b1 : (0 : Int) ≤ (n : Int) := by omega
  have b2 : (n : Int) < (R.k : Int) := by omega
  have f0 := fz (n * 2)
  have f1 := fz (n * 2 + 1)
  clear hsm hvl hbs hbs2 hv hb0 hnew m1 m2 fz h0
  by_cases he : l = R.bl n
  · have HX := Lib.hid (decide_eq_true he)
    have HY := Lib.hid (HBE.out.trans (if_pos he))
    clear he
    go_enter Try.func83, Try.ntmps83
    go_wp2_with fail
    refine HS.out.mono ?_
    rintro e w1 ⟨rfl, rfl⟩
    rw [HX.out]
    go_wp2_with fail
    go_ret
    rw [HY.out]
    exact ⟨rfl, R, HM.out, rfl⟩
  · have HX := Lib.hid (decide_eq_false he)
    have HY := Lib.hid (HBE.out.trans (if_neg he))
    clear he
    cases hh : R.hu n with
    | true =>
      rw [hh] at hn1
      have HZ := Lib.hid (HY.out.trans (if_pos hh))
      clear hh HY
      go_enter Try.func83, Try.ntmps83
      go_wp2_with fail
      refine HS.out.mono ?_
      rintro e w1 ⟨rfl, rfl⟩
      rw [HX.out]
      go_wp2_with fail
      go_ret
      rw [HZ.out]
      exact ⟨rfl, R, HM.out, rfl⟩
    | false =>
      rw [hh] at hn1
      have HZ := Lib.hid (HY.out.trans (if_neg (ndn hh)))
      clear hh HY
      go_enter Try.func83, Try.ntmps83
      go_wp2_with fail
      refine HS.out.mono ?_
      rintro e w1 ⟨rfl, rfl⟩
      rw [HX.out]
      go_wp2_with fail
      go_ret
      rw [HZ.out]
      exact ⟨rfl, _, HM2.out, HSE.out⟩
end Go.Proofs.Ytkdphgcbecldbaa
