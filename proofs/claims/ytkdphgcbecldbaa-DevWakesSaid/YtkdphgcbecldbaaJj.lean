/- Texts of the proof, one behind the other: DevU, DevV, DevW, DevY. -/
import Derived.Test.YtkdphgcbecldbaaJi
import Derived.Test.YtkdphgcbecldbaaJh
/- The disk: Rot. -/
namespace Go.Proofs.Ytkdphgcbecldbaa
open Go.RowKit
attribute [local go_sem ↓] wp_ld93 wp_st93
theorem rotF_done (m f : Nat) (cl : List Nat) (h : m = 0 ∨ 2048 ≤ f) : rotF (2048 - f) m f cl = cl := by
  rcases h with rfl | h
  · cases 2048 - f with
    | zero => rfl
    | succ r => unfold rotF; rw [if_pos rfl]
  · rw [show 2048 - f = 0 by omega]; rfl
theorem rotF_go (m f : Nat) (cl : List Nat) (h : m ≠ 0) (hf : f < 2048) : rotF (2048 - f) m f cl = rotF (2048 - (f + 1)) (m / 2) (f + 1) (cl.set (f / 8) (cl.getD (f / 8) 0 ^^^ m % 2 * 2 ^ (f % 8))) := by
  rw [show 2048 - f = (2048 - (f + 1)) + 1 by omega]
  conv => lhs; unfold rotF
  rw [if_neg h]
set_option maxRecDepth 100000 in
set_option maxHeartbeats 1000000 in
theorem rot_out (D : Dk) (n bit : Int) (m : Int) (w : World) (h : Dsk w D) (hn : n < 0 ∨ (D.k : Int) ≤ n) :
    Calls Try.prog 35 #[.pointer (some ⟨D.d, 0, none⟩), .int .i64 n, .int .i64 bit, .int .u32 m] w fun r w' => r = .returned (.int .i64 2) ∧ Mv w D w' D := by
  have HH := Lib.hid h
  have HN := Lib.hid hn
  clear h hn
  go_enter Try.func35, Try.ntmps35
  go_wp2_with fail
  refine (there_no D n _ HH.out HN.out).mono ?_
  rintro e w1 ⟨rfl, rfl⟩
  go_wp2_with fail
  refine (told_at n 2 _ (by omega)).mono ?_
  rintro e w2 ⟨rfl, hg⟩
  go_wp2_with fail
  go_ret
  exact ⟨rfl, Mv.gr HH.out hg⟩
set_option maxRecDepth 100000 in
set_option maxHeartbeats 1000000 in
theorem rot_far (D : Dk) (n bit : Int) (m : Int) (w : World) (h : Dsk w D) (h0 : 0 ≤ n) (h1 : n < D.k) (hb : bit < 0 ∨ 2048 ≤ bit) :
    Calls Try.prog 35 #[.pointer (some ⟨D.d, 0, none⟩), .int .i64 n, .int .i64 bit, .int .u32 m] w fun r w' => r = .returned (.int .i64 2) ∧ Mv w D w' D := by
  have HH := Lib.hid h
  clear h
  rcases hb with hb | hb
  all_goals (
    go_enter Try.func35, Try.ntmps35
    go_wp2_with fail
    refine (there_ok D n _ HH.out h0 h1).mono ?_
    rintro e w1 ⟨rfl, rfl⟩
    go_wp2_with fail
    go_ret
    exact ⟨rfl, Mv.refl HH.out⟩)
set_option maxRecDepth 100000 in
set_option maxHeartbeats 1000000 in
theorem rot_by (D D' : Dk) (ev : De) (n bit m : Nat) (w : World) (h : Dsk w D) (hn : n < D.k) (hb : bit < 2048) (hm : m < 4294967296) (hf : ev.fair)
    (HB : Hid (∀ W, Dsk W D → Calls Try.prog 60 #[.pointer (some ⟨D.d, 0, none⟩), .int .i64 n, .agg (bvs (rotB (D.bl n) bit m)).toArray] W fun r w' => r = .returned ev.v ∧ Mv W D w' D')) :
    Calls Try.prog 35 #[.pointer (some ⟨D.d, 0, none⟩), .int .i64 n, .int .i64 bit, .int .u32 m] w fun r w' => r = .returned (.int .i64 ev.num) ∧ Mv w D w' D' := by
  have HT := Lib.hid (told_any ev hf)
  have HH := Lib.hid h
  have h4 := h.c 4 rfl
  have hl := (h.bln n hn).1
  have hsm := (h.bln n hn).2
  have hlen : (bvs (D.bl n)).length = 256 := by rw [bvs_len]; exact hl
  have hld := ldv93 (h.bls n hn) hlen
  have hst := stv93_new w (bvs (D.bl n)).toArray (by rw [List.size_toArray]; exact hlen) (all_oneCell_toArray (bvs_one _))
  have HNEW := Lib.hid (heap_alloc_new w (.cells (bvs (D.bl n)).toArray 93))
  have HGR := Lib.hid (Gr.at_alloc w (.cells (bvs (D.bl n)).toArray 93))
  have hl' := hl
  have HSM := Lib.hid hsm
  have HL := Lib.hid hl'
  have b1 : (0 : Int) ≤ (n : Int) := by omega
  have b2 : (n : Int) < (D.k : Int) := by omega
  clear h hf hsm hl hlen hl'
  generalize hX : (bvs (D.bl n)).toArray = X at *
  have HX := Lib.hid hX
  clear hX
  go_enter Try.func35, Try.ntmps35
  go_wp2_with fail
  refine (there_ok D n _ HH.out (by omega) (by omega)).mono ?_
  rintro e w1 ⟨rfl, rfl⟩
  go_wp2_with fail
  go_loopw [2, 3] (fun b t wr => ∃ (f q : Nat) (cl : List Nat), f ≤ 2048 ∧ b = .int .i64 f ∧ t = .int .u32 q ∧ q < 4294967296 ∧ Hid (wr.heap[w.heap.size]? = some (.cells (bvs cl).toArray 93 (0, 0))) ∧ Hid (Small cl) ∧ Hid (cl.length = 256) ∧ Hid (rotF (2048 - f) q f cl = rotB (D.bl n) bit m) ∧ Gr w wr) (fun b _ _ => 2048 - (intOf b).toNat)
  case atStart => exact ⟨bit, m, D.bl n, by omega, rfl, rfl, hm, by rw [HX.out]; exact HNEW.out, HSM.out, HL.out, rfl, HGR.out⟩
  case round =>
    obtain ⟨f, q, cl, hf, rfl, rfl, hq, HC, HS2, HL2, HROT, hg⟩ := hrel
    by_cases hgo : q ≠ 0 ∧ f < 2048
    · obtain ⟨hq0, hf2⟩ := hgo
      have hj : f / 8 < cl.length := by rw [HL2.out]; omega
      have hcell : wr.cell? ⟨w.heap.size, f / 8, none⟩ = some (.int .u8 ((cl.getD (f / 8) 0 : Nat) : Int)) := by
        rw [cell_of_row _ _ _ _ _ _ HC.out, List.getElem?_toArray]
        have hl : f / 8 < (bvs cl).length := by rw [bvs_len]; exact hj
        rw [List.getElem?_eq_getElem hl]
        exact congrArg some (bvs_at (List.getElem?_eq_getElem hl)).2
      have hfro : wr.frozen? ⟨w.heap.size, f / 8, none⟩ = false := frozen_of_row _ _ _ _ _ HC.out
      have hx8 : cl.getD (f / 8) 0 < 256 := HS2.out.at_ _
      have hgo := rotF_go q f cl hq0 hf2
      have HGO := Lib.hid hgo
      clear hgo
      generalize hx : cl.getD (f / 8) 0 = x at *
      have HXE := Lib.hid hx
      clear hx
      have e1 : ((f : Int)).tdiv 8 = ((f / 8 : Nat) : Int) := by rw [Int.tdiv_eq_ediv_of_nonneg (by omega)]; omega
      have e2 : ((f : Int)).tmod 8 = ((f % 8 : Nat) : Int) := by rw [Int.tmod_eq_emod_of_nonneg (by omega)]; omega
      generalize hJ : f / 8 = J at *
      generalize hR : f % 8 = R at *
      have HJ := Lib.hid hJ
      have HR := Lib.hid hR
      have hR8 : R < 8 := by omega
      have hJ8 : J < 256 := by omega
      have hq1 : ((q : Int) != 0) = true := by simp; omega
      have hf3 : (f : Int) < 2048 := by omega
      have e4 : bits .and .u32 (q : Int) 1 = ((q % 2 : Nat) : Int) := and1 q hq
      have hb1 : q % 2 < 2 := Nat.mod_lt _ (by decide)
      generalize hbt : q % 2 = bt at *
      have HBT := Lib.hid hbt
      have e5 : IntKind.u8.wrap (bt : Int) = (bt : Int) := IntWalk.u8_in _ (by omega)
      have e6 : IntKind.i64.wrap (J : Int) = (J : Int) := IntWalk.i64_in _ (by omega)
      have e7 : IntKind.i64.wrap (R : Int) = (R : Int) := IntWalk.i64_in _ (by omega)
      have b3 : (0 : Int) ≤ (J : Int) := by omega
      have b4 : (J : Int) < 256 := by omega
      have b5 : (0 : Int) ≤ (R : Int) := by omega
      clear hbt
      go_wp2_with fail
      go_still_tail 12, (by kernel_rfl)
      change wpList _ _ _ _ _ wr.drew
      have e8 : bits .xor .u8 (x : Int) ((bt : Int) * 2 ^ R % 256) = ((x ^^^ bt * 2 ^ R : Nat) : Int) := by
        have h := bt_lt bt R hb1 hR8
        rw [show (bt : Int) * 2 ^ R % 256 = ((bt * 2 ^ R : Nat) : Int) by
          rw [show (bt : Int) * 2 ^ R = ((bt * 2 ^ R : Nat) : Int) by simp]; omega, u8_xor_nat _ _ hx8 (by omega)]
      have HE8 := Lib.hid e8
      have hy8 : x ^^^ bt * 2 ^ R < 256 := Nat.xor_lt_two_pow (n := 8) hx8 (bt_lt bt R hb1 hR8)
      clear e8
      go_wp2_with fail
      refine ⟨⟨f + 1, q / 2, cl.set J (x ^^^ bt * 2 ^ R), by omega, by go_num, by go_num, by omega, ?_, small_set HS2.out _ hy8, (List.length_set ..).trans HL2.out, ?_, ?_⟩, by simp [intOf]; omega⟩
      · show (wr.setCell _ _).heap[w.heap.size]? = _
        rw [HE8.out]
        have hh := heap_setCell_same wr w.heap.size J (bvs cl).toArray 93 (.int .u8 ((x ^^^ bt * 2 ^ R : Nat) : Int)) HC.out
        rw [hh, List.setIfInBounds_toArray]
        have e9 : bvs (cl.set J (x ^^^ bt * 2 ^ R)) = (bvs cl).set J (.int .u8 ((x ^^^ bt * 2 ^ R : Nat) : Int)) := List.map_set ..
        rw [e9]
      · rw [← HGO.out]; exact HROT.out
      · exact Below.drew (Below.setCell hg (Nat.le_refl _) _)
    · have hdone := rotF_done q f cl (by omega)
      rw [HROT.out] at hdone
      have hr : wr.rangeAt w.heap.size 0 (bvs cl) := fun j v hv => by
        rw [cell_of_row _ _ _ _ _ _ HC.out, Nat.zero_add, List.getElem?_toArray]; exact hv
      have hl3 := ldv93 hr (by rw [bvs_len]; exact HL2.out)
      rw [← hdone] at hl3
      have hcall := HB.out wr (HH.out.gr hg)
      have HCALL := Lib.hid hcall
      clear hr hdone hcall
      generalize (bvs (rotB (D.bl n) bit m)).toArray = Y at *
      have htest : ((q : Int) != 0) = false ∨ (((q : Int) != 0) = true ∧ 2048 ≤ (f : Int)) := by
        rcases Nat.eq_zero_or_pos q with h | h
        · exact .inl (by simp [h])
        · exact .inr ⟨by simp; omega, by omega⟩
      have HG := Lib.hid hg
      clear hg
      rcases htest with htest | ⟨htest, htest2⟩
      all_goals (
        go_wp2_with fail
        refine HCALL.out.mono ?_
        rintro e w2 ⟨rfl, hm2⟩
        have HM2 := Lib.hid hm2
        clear hm2
        go_wp2_with fail
        refine (HT.out _).mono ?_
        rintro e w3 ⟨rfl, hg3⟩
        go_wp2_with fail
        go_ret
        exact ⟨rfl, ((Mv.gr HH.out HG.out).trans HM2.out).trans (Mv.gr HM2.out.2.1 hg3)⟩)
/-- bits of a block turned: it is as it was; it is hurt; it is another now -/
theorem rot_same (D : Dk) (n bit m : Nat) (w : World) (h : Dsk w D) (hn : n < D.k) (hb : bit < 2048) (hm : m < 4294967296) (hr : rotB (D.bl n) bit m = D.bl n) :
    Calls Try.prog 35 #[.pointer (some ⟨D.d, 0, none⟩), .int .i64 n, .int .i64 bit, .int .u32 m] w fun r w' => r = .returned (.int .i64 2) ∧ Mv w D w' D :=
  rot_by D D (.at_ n 2) n bit m w h hn hb hm (.inr (.inr (.inl rfl))) (fun W hW => become_same D n W hW hn _ hr)
theorem rot_hurt (D : Dk) (n bit m : Nat) (w : World) (h : Dsk w D) (hn : n < D.k) (hb : bit < 2048) (hm : m < 4294967296) (hr : rotB (D.bl n) bit m ≠ D.bl n) (hh : D.hu n = true) :
    Calls Try.prog 35 #[.pointer (some ⟨D.d, 0, none⟩), .int .i64 n, .int .i64 bit, .int .u32 m] w fun r w' => r = .returned (.int .i64 16) ∧ Mv w D w' D :=
  rot_by D D (.at_ n 16) n bit m w h hn hb hm (.inr (.inr (.inr rfl))) (fun W hW => become_hurt D n W hW hn _ ((rotF_len _ _ _ _).trans (h.bln n hn).1) hr hh)
theorem rot_ok (D : Dk) (n bit m : Nat) (w : World) (h : Dsk w D) (hn : n < D.k) (hb : bit < 2048) (hm : m < 4294967296) (hr : rotB (D.bl n) bit m ≠ D.bl n) (hh : D.hu n = false) :
    Calls Try.prog 35 #[.pointer (some ⟨D.d, 0, none⟩), .int .i64 n, .int .i64 bit, .int .u32 m] w fun r w' => r = .returned (.int .i64 0) ∧ Mv w D w' { D with bl := upd D.bl n (rotB (D.bl n) bit m), hu := upd D.hu n true } :=
  rot_by D _ .ok n bit m w h hn hb hm trivial (fun W hW => become_ok D n W hW hn _ ((rotF_len _ _ _ _).trans (h.bln n hn).1) (rotF_small _ _ _ _ (h.bln n hn).2) hr hh)
end Go.Proofs.Ytkdphgcbecldbaa
/- The disk: Wake. -/
namespace Go.Proofs.Ytkdphgcbecldbaa
open Go.RowKit
attribute [local go_sem ↓] wp_ld95 wp_st95
set_option maxRecDepth 100000 in
set_option maxHeartbeats 1000000 in
theorem wake_up (D : Dk) (a b c : Int) (w : World) (h : Dsk w D) (hd : D.dn = false) :
    Calls Try.prog 31 #[.pointer (some ⟨D.d, 0, none⟩), .int .i64 a, .int .i64 b, .int .i64 c] w fun r w' => r = .returned (.int .i64 16) ∧ Mv w D w' D := by
  have HH := Lib.hid h
  have Hd := Lib.hid hd
  clear h hd
  go_enter Try.func31, Try.ntmps31
  go_wp2_with fail
  refine (up_ok D _ HH.out Hd.out).mono ?_
  rintro e w1 ⟨rfl, rfl⟩
  go_wp2_with fail
  refine (told_ok _).mono ?_
  rintro e w2 ⟨rfl, hg⟩
  have HG := Lib.hid hg
  clear hg
  go_wp2_with fail
  go_ret
  exact ⟨rfl, Mv.gr HH.out HG.out⟩
theorem store_any (D : Dk) (n many : Nat) (l : List Nat) (w : World) (h : Dsk w D) (hn : n < D.k) (hm : many ≤ 8) (hl : l.length = 256) (hs : Small l) :
    Calls Try.prog 57 #[.pointer (some ⟨D.d, 0, none⟩), .agg (lc (n, l)).toArray, .int .i64 many] w fun r w' => r = .returned (.tuple #[]) ∧ Mv w D w' (D.st n l many) := by
  by_cases h8 : many = 8
  · subst h8; exact store_all D n l w h hn hl hs
  · exact store_some D n many l w h hn (by omega) hl hs
/-- how much of a write is stored when the disk is woken -/
def wkn (stay torn part : Int) (i : Nat) : Option Nat := if (i : Int) = torn then some (part % 9).toNat else if stay / 2 ^ (i % 60) % 2 = 1 then some 8 else none
def Dk.wk1 (D : Dk) (stay torn part : Int) (i : Nat) (e : Nat × List Nat) : Dk := match wkn stay torn part i with
  | some m => D.st e.1 e.2 m
  | none => D
def Dk.wkAll (D : Dk) (stay torn part : Int) (es : List (Nat × List Nat)) : Dk := es.zipIdx.foldl (fun D p => D.wk1 stay torn part p.2 p.1) D
def Dk.wake (D : Dk) (stay torn part : Int) : Dk := { D.wkAll stay torn part D.ws with wv := .slice none 0 0, ws := [], ar := 0, dn := false }
theorem wkAll_snoc (D : Dk) (stay torn part : Int) (es : List (Nat × List Nat)) (e : Nat × List Nat) : D.wkAll stay torn part (es ++ [e]) = (D.wkAll stay torn part es).wk1 stay torn part es.length e := by
  unfold Dk.wkAll
  rw [List.zipIdx_append, List.foldl_append]
  simp
theorem wk1_same (D : Dk) (stay torn part : Int) (i : Nat) (e : Nat × List Nat) : (D.wk1 stay torn part i e).d = D.d ∧ (D.wk1 stay torn part i e).k = D.k ∧ (D.wk1 stay torn part i e).wv = D.wv ∧ (D.wk1 stay torn part i e).ws = D.ws := by
  unfold Dk.wk1
  split <;> exact ⟨rfl, rfl, rfl, rfl⟩
theorem wkAll_same (D : Dk) (stay torn part : Int) : ∀ (es : List (Nat × List Nat)), (D.wkAll stay torn part es).d = D.d ∧ (D.wkAll stay torn part es).k = D.k ∧ (D.wkAll stay torn part es).wv = D.wv ∧ (D.wkAll stay torn part es).ws = D.ws := by
  intro es
  unfold Dk.wkAll
  generalize es.zipIdx = ps
  induction ps generalizing D with
  | nil => exact ⟨rfl, rfl, rfl, rfl⟩
  | cons p r ih =>
    obtain ⟨h1, h2, h3, h4⟩ := wk1_same D stay torn part p.2 p.1
    obtain ⟨g1, g2, g3, g4⟩ := ih (D.wk1 stay torn part p.2 p.1)
    exact ⟨g1.trans h1, g2.trans h2, g3.trans h3, g4.trans h4⟩
end Go.Proofs.Ytkdphgcbecldbaa
/- The disk: Wake, walked. -/
namespace Go.Proofs.Ytkdphgcbecldbaa
open Go.RowKit
attribute [local go_sem ↓] wp_ld95 wp_st95
theorem and1_int (n : Int) : bits .and .i64 n 1 = n % 2 := by
  have h1 : (BitVec.ofInt 64 1).toNat = 2 ^ 1 - 1 := by decide
  have key : (BitVec.ofInt 64 n &&& BitVec.ofInt 64 1).toNat = (n % ((2 ^ 64 : Nat) : Int)).toNat % 2 ^ 1 := by
    rw [BitVec.toNat_and, BitVec.toNat_ofInt, h1, Nat.and_two_pow_sub_one_eq_mod]
  show IntKind.i64.wrap ((BitVec.ofInt 64 n &&& BitVec.ofInt 64 1).toNat : Nat) = n % 2
  rw [key, IntKind.wrap_i64]
  omega
theorem wake_end {D : Dk} {a b c : Int} {w wr : World} (hmv : Mv w D wr (D.wkAll a b c D.ws)) (hd : (D.wkAll a b c D.ws).d = D.d) :
    Mv w D (((wr.setCell ⟨D.d, 6, none⟩ (.slice none 0 0)).setCell ⟨D.d, 2, none⟩ (.int .i64 0)).setCell ⟨D.d, 3, none⟩ (.bool false)) (D.wake a b c) := by
  have m1 := hmv.trans (Mv.drop hmv.2.1)
  have m2 := m1.trans (Mv.put (D' := { D.wkAll a b c D.ws with wv := .slice none 0 0, ws := [], ar := 0 }) m1.2.1 2 (.int .i64 0) (by omega) rfl (by simp) rfl)
  have m3 := m2.trans (Mv.put (D' := D.wake a b c) m2.2.1 3 (.bool false) (by omega) rfl (by simp [Dk.wake]) rfl)
  have e : ∀ i, (⟨(D.wkAll a b c D.ws).d, i, none⟩ : Addr) = ⟨D.d, i, none⟩ := fun i => by rw [hd]
  simp only [e] at m3
  exact m3
set_option maxRecDepth 100000 in
set_option maxHeartbeats 2000000 in
theorem wake_some (D : Dk) (a b c : Int) (w : World) (h : Dsk w D) (hd : D.dn = true) (hn : 0 < D.ws.length) (hws : D.ws.length ≤ 1000000) :
    Calls Try.prog 31 #[.pointer (some ⟨D.d, 0, none⟩), .int .i64 a, .int .i64 b, .int .i64 c] w fun r w' => r = .returned (.int .i64 0) ∧ Mv w D w' (D.wake a b c) := by
  have HH := Lib.hid h
  have Hd := Lib.hid hd
  clear h hd
  go_enter Try.func31, Try.ntmps31
  go_wp2_with fail
  refine (up_no D _ HH.out Hd.out).mono ?_
  rintro e w1 ⟨rfl, rfl⟩
  go_wp2_with fail
  refine (told_cd 11 _ (by omega)).mono ?_
  rintro e w1 ⟨rfl, hg⟩
  have hD := HH.out.gr hg
  have h6 : w1.cell? ⟨D.d, 6, none⟩ = some D.wv := hD.c 6 rfl
  obtain ⟨g, cap, hwv, hcap, hw⟩ := hD.wait hn
  rw [hwv] at h6
  have HM : Hid (Mv w D w1 D) := Mv.gr HH.out hg
  have HW := Lib.hid hwv
  clear hw hwv hcap hg hD
  go_wp2_with fail
  go_loopw [24] (fun i wr => ∃ k : Nat, k ≤ D.ws.length ∧ i = .int .i64 k ∧ Mv w D wr (D.wkAll a b c (D.ws.take k))) (fun i _ => D.ws.length - (intOf i).toNat)
  case atStart => exact ⟨0, by omega, rfl, HM.out⟩
  case round =>
    obtain ⟨k, hk, rfl, hmv⟩ := hrel
    have HMV := Lib.hid hmv
    clear hmv
    have HS := Lib.hid (wkAll_same D a b c (D.ws.take k))
    by_cases hkn : k < D.ws.length
    · have hsnoc : D.ws.take (k + 1) = D.ws.take k ++ [D.ws[k]] := by rw [List.take_succ_eq_append_getElem hkn]
      have htl : (D.ws.take k).length = k := by rw [List.length_take]; omega
      have hEd := HMV.out.2.1
      obtain ⟨s1, s2, s3, s4⟩ := HS.out
      obtain ⟨E, hEe⟩ : ∃ E : Dk, E = D.wkAll a b c (D.ws.take k) := ⟨_, rfl⟩
      rw [← hEe] at hEd s1 s2 s3 s4
      have hwE : E.wv = .slice (some ⟨g, 0, none⟩) D.ws.length cap := s3.trans HW.out
      have s4' : E.ws = D.ws := s4
      have hkE : k < E.ws.length := by rw [s4']; exact hkn
      obtain ⟨g', cap', hv', hc', hw'⟩ := hEd.wait (by omega)
      have hgc := hv'.symm.trans hwE
      rw [s4'] at hgc
      injection hgc with e1 _ e3
      injection e1 with e1
      injection e1 with e1
      subst e1
      subst e3
      have hx := hw' k hkE
      have hent := hEd.wsn _ (List.getElem_mem hkE)
      have hEq : E.ws[k] = D.ws[k] := by simp only [s4']
      rw [hEq] at hx hent
      generalize D.ws[k] = e0 at *
      obtain ⟨n, l⟩ := e0
      obtain ⟨hn1, hn2, hn3⟩ := hent
      have hlen : (lc (n, l)).length = 257 := lc_len hn2
      have hld := ldv95 hx hlen
      have hst := stv95_new wr (lc (n, l)).toArray (by rw [List.size_toArray]; exact hlen) (all_oneCell_toArray lc_one)
      have hnew := heap_alloc_new wr (.cells (lc (n, l)).toArray 95)
      have hld2 := ldv95 (w := wr.alloc (.cells (lc (n, l)).toArray 95)) (b := wr.heap.size) (o := 0) (cs := lc (n, l)) (fun j v hv => by
        rw [cell_of_row _ _ _ _ _ _ hnew, Nat.zero_add, List.getElem?_toArray]; exact hv) hlen
      have HGR := Lib.hid (Gr.at_alloc wr (.cells (lc (n, l)).toArray 95))
      have HST := Lib.hid (fun many W hW hm => store_any E n many l W hW hn1 hm hn2 hn3)
      have HEE : Hid (D.wkAll a b c (D.ws.take (k + 1)) = E.wk1 a b c k (n, l)) := by
        show _ = _
        rw [hsnoc, wkAll_snoc, ← hEe, htl]
      have HED := Lib.hid hEd
      have HEe := Lib.hid hEe
      have Hd1 : Hid (E.d = D.d) := s1
      clear hEd hEe hx hnew hw' hc' hv' hwE hsnoc s1 s2 s3 s4 s4' hEq hkE htl
      generalize (lc (n, l)).toArray = X at *
      have b1 : (0 : Int) ≤ (k : Int) := by omega
      have b2 : (k : Int) < (D.ws.length : Int) := by omega
      by_cases ht : (k : Int) = b
      · have ht1 : ((k : Int) == b) = true := by simpa using ht
        have hq1 : -9 < c.tmod 9 := by
          have h := Int.tmod_lt_of_pos (-c) (show (0 : Int) < 9 by omega)
          rw [Int.neg_tmod] at h; omega
        have hq2 : c.tmod 9 < 9 := Int.tmod_lt_of_pos c (by omega)
        have hq3 : c % 9 = c.tmod 9 + if 0 ≤ c ∨ (9 : Int) ∣ c then 0 else (9 : Int).natAbs := Int.emod_eq_tmod
        have hq4 := Int.emod_nonneg c (show (9 : Int) ≠ 0 by omega)
        have hq5 := Int.emod_lt_of_pos c (show (0 : Int) < 9 by omega)
        have hwk : E.wk1 a b c k (n, l) = E.st n l (c % 9).toNat := by unfold Dk.wk1 wkn; rw [if_pos ht]
        obtain ⟨m, hm⟩ : ∃ m : Nat, c % 9 = (m : Int) := ⟨(c % 9).toNat, by omega⟩
        rw [hm, Int.toNat_natCast] at hwk
        have HWK := Lib.hid hwk
        have hm8 : m ≤ 8 := by omega
        have hc := HST.out m _ (HED.out.gr HGR.out) hm8
        rw [Hd1.out] at hc
        have HCC := Lib.hid hc
        clear hwk hc ht
        by_cases hneg : c.tmod 9 < 0
        · have hmm : c.tmod 9 + 9 = (m : Int) := by
            rw [← hm]; split at hq3 <;> omega
          have HMM := Lib.hid hmm
          clear hq3 hq4 hq5 hm hmm
          go_wp2_with fail
          rw [HMM.out]
          refine HCC.out.mono ?_
          rintro e w2 ⟨rfl, hm2⟩
          have HM2 := Lib.hid hm2
          clear hm2
          go_wp2_with fail
          go_roundw
          case rel =>
            refine ⟨k + 1, by omega, by go_num, ?_⟩
            rw [HEE.out, HWK.out]
            have h0 := HMV.out
            rw [← HEe.out] at h0
            exact (h0.trans (Mv.gr h0.2.1 HGR.out)).trans HM2.out
          case measure => simp [intOf]; omega
        · have hmm : c.tmod 9 = (m : Int) := by
            rw [← hm]; split at hq3 <;> omega
          have HMM := Lib.hid hmm
          clear hq3 hq4 hq5 hm hmm
          go_wp2_with fail
          rw [HMM.out]
          refine HCC.out.mono ?_
          rintro e w2 ⟨rfl, hm2⟩
          have HM2 := Lib.hid hm2
          clear hm2
          go_wp2_with fail
          go_roundw
          case rel =>
            refine ⟨k + 1, by omega, by go_num, ?_⟩
            rw [HEE.out, HWK.out]
            have h0 := HMV.out
            rw [← HEe.out] at h0
            exact (h0.trans (Mv.gr h0.2.1 HGR.out)).trans HM2.out
          case measure => simp [intOf]; omega
      · have ht1 : ((k : Int) == b) = false := by simpa using ht
        by_cases hb : a / 2 ^ (k % 60) % 2 = 1
        · have hwk : E.wk1 a b c k (n, l) = E.st n l 8 := by unfold Dk.wk1 wkn; rw [if_neg ht, if_pos hb]
          have hb1 : (bits .and .i64 (a / 2 ^ (k % 60)) 1 == 1) = true := by rw [and1_int, hb]; rfl
          have HWK := Lib.hid hwk
          clear hwk hb ht
          go_wp2_with fail
          have hc := HST.out 8 _ (HED.out.gr HGR.out) (by omega)
          rw [Hd1.out] at hc
          refine hc.mono ?_
          rintro e w2 ⟨rfl, hm2⟩
          have HM2 := Lib.hid hm2
          clear hm2 hc
          go_wp2_with fail
          go_roundw
          case rel =>
            refine ⟨k + 1, by omega, by go_num, ?_⟩
            rw [HEE.out, HWK.out]
            have h0 := HMV.out
            rw [← HEe.out] at h0
            exact (h0.trans (Mv.gr h0.2.1 HGR.out)).trans HM2.out
          case measure => simp [intOf]; omega
        · have hwk : E.wk1 a b c k (n, l) = E := by unfold Dk.wk1 wkn; rw [if_neg ht, if_neg hb]
          have hb1 : (bits .and .i64 (a / 2 ^ (k % 60)) 1 == 1) = false := by rw [and1_int]; simpa using hb
          have HWK := Lib.hid hwk
          clear hwk hb ht
          go_wp2_with fail
          go_roundw
          case rel =>
            refine ⟨k + 1, by omega, by go_num, ?_⟩
            rw [HEE.out, HWK.out]
            have h0 := HMV.out
            rw [← HEe.out] at h0
            exact h0.trans (Mv.gr h0.2.1 HGR.out)
          case measure => simp [intOf]; omega
    · obtain rfl : k = D.ws.length := by omega
      have htk : D.ws.take D.ws.length = D.ws := List.take_length
      have hmv := HMV.out
      rw [htk] at hmv
      have hd0 : (D.wkAll a b c D.ws).d = D.d := (wkAll_same D a b c D.ws).1
      have h6 : wr.cell? ⟨D.d, 6, none⟩ = some (D.wkAll a b c D.ws).wv := by rw [← hd0]; exact hmv.2.1.c 6 rfl
      have f6 : wr.frozen? ⟨D.d, 6, none⟩ = false := by rw [← hd0]; exact hmv.2.1.f 6 (by omega)
      have h2 : wr.cell? ⟨D.d, 2, none⟩ = some (.int .i64 (D.wkAll a b c D.ws).ar) := by rw [← hd0]; exact hmv.2.1.c 2 rfl
      have f2 : wr.frozen? ⟨D.d, 2, none⟩ = false := by rw [← hd0]; exact hmv.2.1.f 2 (by omega)
      have h3 : wr.cell? ⟨D.d, 3, none⟩ = some (.bool (D.wkAll a b c D.ws).dn) := by rw [← hd0]; exact hmv.2.1.c 3 rfl
      have f3 : wr.frozen? ⟨D.d, 3, none⟩ = false := by rw [← hd0]; exact hmv.2.1.f 3 (by omega)
      have HFIN := Lib.hid (wake_end hmv hd0)
      clear hmv hd0 htk
      generalize (D.wkAll a b c D.ws).wv = u6 at *
      generalize (D.wkAll a b c D.ws).ar = u2 at *
      generalize (D.wkAll a b c D.ws).dn = u3 at *
      go_wp2_with fail
      go_ret
      exact ⟨rfl, HFIN.out⟩
set_option maxRecDepth 100000 in
set_option maxHeartbeats 2000000 in
theorem wake_none (D : Dk) (a b c : Int) (w : World) (h : Dsk w D) (hd : D.dn = true) (hn : D.ws = []) :
    Calls Try.prog 31 #[.pointer (some ⟨D.d, 0, none⟩), .int .i64 a, .int .i64 b, .int .i64 c] w fun r w' => r = .returned (.int .i64 0) ∧ Mv w D w' (D.wake a b c) := by
  have HH := Lib.hid h
  have Hd := Lib.hid hd
  have HN := Lib.hid hn
  clear h hd hn
  go_enter Try.func31, Try.ntmps31
  go_wp2_with fail
  refine (up_no D _ HH.out Hd.out).mono ?_
  rintro e w1 ⟨rfl, rfl⟩
  go_wp2_with fail
  refine (told_cd 11 _ (by omega)).mono ?_
  rintro e w1 ⟨rfl, hg⟩
  have hD := HH.out.gr hg
  have h6 : w1.cell? ⟨D.d, 6, none⟩ = some D.wv := hD.c 6 rfl
  have f6 : w1.frozen? ⟨D.d, 6, none⟩ = false := hD.f 6 (by omega)
  have h2 := hD.c 2 rfl
  have f2 := hD.f 2 (by omega)
  have h3 := hD.c 3 rfl
  have f3 := hD.f 3 (by omega)
  obtain ⟨A, cap, hwv⟩ := hD.wait_nil HN.out
  rw [hwv] at h6
  have HM : Hid (Mv w D w1 D) := Mv.gr HH.out hg
  have hw0 : D.wkAll a b c D.ws = D := by rw [HN.out]; rfl
  have HFIN := Lib.hid (wake_end (D := D) (a := a) (b := b) (c := c) (by rw [hw0]; exact HM.out) (by rw [hw0]))
  clear hwv hg hD hw0
  go_wp2_with fail
  refine wp_loop_rounds 1 ?_
  rw [rounds_succ]
  go_wp2_with fail
  go_ret
  exact ⟨rfl, HFIN.out⟩
theorem wake_ok (D : Dk) (a b c : Int) (w : World) (h : Dsk w D) (hd : D.dn = true) (hws : D.ws.length ≤ 1000000) :
    Calls Try.prog 31 #[.pointer (some ⟨D.d, 0, none⟩), .int .i64 a, .int .i64 b, .int .i64 c] w fun r w' => r = .returned (.int .i64 0) ∧ Mv w D w' (D.wake a b c) := by
  rcases Nat.eq_zero_or_pos D.ws.length with h0 | h0
  · exact wake_none D a b c w h hd (List.eq_nil_of_length_eq_zero h0)
  · exact wake_some D a b c w h hd h0 hws
end Go.Proofs.Ytkdphgcbecldbaa
/- The disk: Stat. -/
namespace Go.Proofs.Ytkdphgcbecldbaa
open Go.RowKit
theorem Dsk.wvs {w : World} {D : Dk} (h : Dsk w D) : ∃ A cap, D.wv = .slice A D.ws.length cap := by
  rcases Nat.eq_zero_or_pos D.ws.length with h0 | h0
  · obtain ⟨A, cap, e⟩ := h.wait_nil (List.eq_nil_of_length_eq_zero h0)
    exact ⟨A, cap, by rw [h0]; exact e⟩
  · obtain ⟨g, cap, e, _⟩ := h.wait h0
    exact ⟨_, cap, e⟩
def Dk.hurts (D : Dk) (i : Nat) : Nat := ((List.range i).filter D.hu).length
theorem hurts_succ (D : Dk) (i : Nat) : D.hurts (i + 1) = D.hurts i + if D.hu i = true then 1 else 0 := by
  unfold Dk.hurts
  rw [List.range_succ, List.filter_append, List.length_append]
  by_cases h : D.hu i = true
  · rw [if_pos h, List.filter_cons_of_pos h]; rfl
  · rw [if_neg h, List.filter_cons_of_neg h]; rfl
theorem hurts_le (D : Dk) (i : Nat) : D.hurts i ≤ i := by
  induction i with
  | zero => exact Nat.le_refl _
  | succ i ih => rw [hurts_succ]; split <;> omega
theorem stat_cells {wr : World} {b : Nat} {z0 z1 z2 z3 z4 z5 : Value} (hs : wr.heap[b]? = some (.cells #[z0, z1, z2, z3, z4, z5] 50 (0, 0))) (v0 v1 v3 v4 v5 : Value) :
    (((((wr.setCell ⟨b, 0, none⟩ v0).setCell ⟨b, 1, none⟩ v1).setCell ⟨b, 3, none⟩ v3).setCell ⟨b, 4, none⟩ v4).setCell ⟨b, 5, none⟩ v5).drew.heap[b]? = some (.cells #[v0, v1, z2, v3, v4, v5] 50 (0, 0)) := by
  simp [World.setCell, World.drew, Array.getElem?_modify, hs]
theorem stat_cells6 {wr : World} {b : Nat} {z0 z1 z2 z3 z4 z5 : Value} (hs : wr.heap[b]? = some (.cells #[z0, z1, z2, z3, z4, z5] 50 (0, 0))) (v0 v1 v2 v3 v4 v5 : Value) :
    ((((((wr.setCell ⟨b, 0, none⟩ v0).setCell ⟨b, 1, none⟩ v1).setCell ⟨b, 2, none⟩ v2).setCell ⟨b, 3, none⟩ v3).setCell ⟨b, 4, none⟩ v4).setCell ⟨b, 5, none⟩ v5).heap[b]? = some (.cells #[v0, v1, v2, v3, v4, v5] 50 (0, 0)) := by
  simp [World.setCell, Array.getElem?_modify, hs]
theorem results_cell {fn : Func} {t : Tmp} {ty : TypeId} {v : Value} {tmps : Array Value} {P : Program} {w : World} {b : Nat} (h : fn.results = #[.cell t ty]) (ht : tmps.getD t undef = .pointer (some ⟨b, 0, none⟩))
    (hl : (loadVar ty ⟨b, 0, none⟩).run P w = .ok v w) : (results fn tmps).run P w = .ok v w := by
  rw [Array.getD_eq_getD_getElem?] at ht
  simp [results, h, asAddr, ht, hl]
def Dk.stat (D : Dk) : Value := .agg #[.int .i64 D.k, .int .i64 D.ws.length, .int .i64 (D.hurts D.k), .int .i64 D.tu, .int .i64 D.cr, .bool D.dn]
set_option maxRecDepth 100000 in
set_option maxHeartbeats 2000000 in
theorem stat_ok (D : Dk) (w : World) (h : Dsk w D) :
    Calls Try.prog 28 #[.pointer (some ⟨D.d, 0, none⟩)] w fun r w' => r = .returned D.stat ∧ Gr w w' := by
  have HH := Lib.hid h
  have hk1 := h.kpos
  have hk2 := h.kle
  have h5 := h.c 5 rfl
  have hh : ∀ i, i < D.k → w.cell? ⟨D.hb, i, none⟩ = some (.bool (D.hu i)) := h.hus
  have HU := Lib.hid hh
  have hsz : D.hb < w.heap.size := h.fp_lt (.inr (.inr (.inl rfl)))
  have hsd : D.d < w.heap.size := h.fp_lt (.inl rfl)
  clear h hh
  go_enter Try.func28, Try.ntmps28
  go_wp2_with fail
  go_loopw [13] (fun i wr => ∃ k : Nat, k ≤ D.k ∧ i = .int .i64 k ∧ Hid (Gr w wr) ∧ wr.heap[w.heap.size]? = some (.cells #[.int .i64 0, .int .i64 0, .int .i64 (D.hurts k), .int .i64 0, .int .i64 0, .bool false] 50 (0, 0))) (fun i _ => D.k - (intOf i).toNat)
  case atStart => exact ⟨0, by omega, rfl, (Below.alloc (Below.refl _ _) (Nat.le_refl _) _), by rw [heap_alloc_new]; rfl⟩
  case round =>
    obtain ⟨k, hk, rfl, HG, hs⟩ := hrel
    by_cases hlt : k < D.k
    · have hc : wr.cell? ⟨D.hb, k, none⟩ = some (.bool (D.hu k)) := (HG.out.cell (p := ⟨D.hb, k, none⟩) hsz).trans (HU.out k hlt)
      have hH := hurts_succ D k
      have hle := hurts_le D k
      have s2 : wr.cell? ⟨w.heap.size, 2, none⟩ = some (.int .i64 (D.hurts k)) := cell_of_row _ _ _ _ _ _ hs
      have f2 : wr.frozen? ⟨w.heap.size, 2, none⟩ = false := by simp [World.frozen?, hs]
      have HS := Lib.hid hs
      clear hs
      have b1 : (0 : Int) ≤ (k : Int) := by omega
      have b2 : (k : Int) < (D.k : Int) := by omega
      cases hu : D.hu k with
      | true =>
        rw [hu] at hc hH
        simp only [if_true] at hH
        go_wp2_with fail
        go_roundw
        case rel =>
          refine ⟨k + 1, by omega, by go_num, HG.out.setCell (p := ⟨w.heap.size, 2, none⟩) (Nat.le_refl _) _, ?_⟩
          rw [hH]
          have := HS.out
          simp [World.setCell, Array.getElem?_modify, this]
        case measure => simp [intOf]; omega
      | false =>
        rw [hu] at hc hH
        simp only [Bool.false_eq_true, if_false, Nat.add_zero] at hH
        go_wp2_with fail
        go_roundw
        case rel =>
          refine ⟨k + 1, by omega, by go_num, HG.out, ?_⟩
          rw [hH]
          exact HS.out
        case measure => simp [intOf]; omega
    · obtain rfl : k = D.k := by omega
      have hD := HH.out.gr HG.out
      have c0 := hD.c 0 rfl
      have c1 := hD.c 1 rfl
      have c3 := hD.c 3 rfl
      have c4 := hD.c 4 rfl
      have c6 := hD.c 6 rfl
      obtain ⟨A, cap, hwv⟩ := hD.wvs
      rw [hwv] at c6
      have r : ∀ j (v : Value), (#[Value.int .i64 0, .int .i64 0, .int .i64 (D.hurts D.k), .int .i64 0, .int .i64 0, .bool false])[j]? = some v → wr.cell? ⟨w.heap.size, j, none⟩ = some v := fun j v hv => by
        rw [cell_of_row _ _ _ _ _ _ hs]; exact hv
      have r0 := r 0 _ rfl
      have r1 := r 1 _ rfl
      have r2 := r 2 _ rfl
      have r3 := r 3 _ rfl
      have r4 := r 4 _ rfl
      have r5 := r 5 _ rfl
      have f0 : ∀ j, wr.frozen? ⟨w.heap.size, j, none⟩ = false := fun j => by simp [World.frozen?, hs]
      have HS := Lib.hid hs
      clear hs r hD hwv
      go_wp2_with fail
      go_region
      all_goals (
        have hW := stat_cells HS.out (.int .i64 D.k) (.int .i64 D.ws.length) (.int .i64 D.tu) (.int .i64 D.cr) (.bool D.dn)
        have hG : Gr w (((((wr.setCell ⟨w.heap.size, 0, none⟩ (.int .i64 D.k)).setCell ⟨w.heap.size, 1, none⟩ (.int .i64 D.ws.length)).setCell ⟨w.heap.size, 3, none⟩ (.int .i64 D.tu)).setCell ⟨w.heap.size, 4, none⟩ (.int .i64 D.cr)).setCell ⟨w.heap.size, 5, none⟩ (.bool D.dn)).drew :=
          (((((HG.out.setCell (p := ⟨w.heap.size, 0, none⟩) (Nat.le_refl _) _).setCell (p := ⟨w.heap.size, 1, none⟩) (Nat.le_refl _) _).setCell (p := ⟨w.heap.size, 3, none⟩) (Nat.le_refl _) _).setCell (p := ⟨w.heap.size, 4, none⟩) (Nat.le_refl _) _).setCell (p := ⟨w.heap.size, 5, none⟩) (Nat.le_refl _) _).drew
        have HG5 := Lib.hid hG
        clear hG
        generalize (((((wr.setCell ⟨w.heap.size, 0, none⟩ (.int .i64 D.k)).setCell ⟨w.heap.size, 1, none⟩ (.int .i64 D.ws.length)).setCell ⟨w.heap.size, 3, none⟩ (.int .i64 D.tu)).setCell ⟨w.heap.size, 4, none⟩ (.int .i64 D.cr)).setCell ⟨w.heap.size, 5, none⟩ (.bool D.dn)).drew = W5 at *
        clear r0 r1 r2 r3 r4 r5 f0 c0 c1 c3 c4 c6
        have r : ∀ j (v : Value), (#[Value.int .i64 D.k, .int .i64 D.ws.length, .int .i64 (D.hurts D.k), .int .i64 D.tu, .int .i64 D.cr, .bool D.dn])[j]? = some v → W5.cell? ⟨w.heap.size, j, none⟩ = some v := fun j v hv => by
          rw [cell_of_row _ _ _ _ _ _ hW]; exact hv
        have r0 : W5.cell? ⟨w.heap.size, 0, none⟩ = some (Value.int .i64 D.k) := r 0 _ rfl
        have r1 : W5.cell? ⟨w.heap.size, 1, none⟩ = some (Value.int .i64 D.ws.length) := r 1 _ rfl
        have r2 : W5.cell? ⟨w.heap.size, 2, none⟩ = some (Value.int .i64 (D.hurts D.k)) := r 2 _ rfl
        have r3 : W5.cell? ⟨w.heap.size, 3, none⟩ = some (Value.int .i64 D.tu) := r 3 _ rfl
        have r4 : W5.cell? ⟨w.heap.size, 4, none⟩ = some (Value.int .i64 D.cr) := r 4 _ rfl
        have r5 : W5.cell? ⟨w.heap.size, 5, none⟩ = some (Value.bool D.dn) := r 5 _ rfl
        have f0 : ∀ j, W5.frozen? ⟨w.heap.size, j, none⟩ = false := fun j => by simp [World.frozen?, hW]
        have HW5 := Lib.hid hW
        clear r hW
        go_wp2_with fail
        refine bodyPost_ret (v := D.stat) (results_cell (b := w.heap.size) rfl rfl ?_) rfl ⟨rfl, ?_⟩
        · exact run_loadVar_row _ w.heap.size 50 50 _ _ _ (stat_cells6 HW5.out _ _ _ _ _ _) Try.underlying50 rfl (by kernel_rfl)
        · exact (((((HG5.out.setCell (p := ⟨w.heap.size, 0, none⟩) (Nat.le_refl _) _).setCell (p := ⟨w.heap.size, 1, none⟩) (Nat.le_refl _) _).setCell (p := ⟨w.heap.size, 2, none⟩) (Nat.le_refl _) _).setCell (p := ⟨w.heap.size, 3, none⟩) (Nat.le_refl _) _).setCell (p := ⟨w.heap.size, 4, none⟩) (Nat.le_refl _) _).setCell (p := ⟨w.heap.size, 5, none⟩) (Nat.le_refl _) _)
end Go.Proofs.Ytkdphgcbecldbaa
