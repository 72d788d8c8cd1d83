/- The disk: Rot. -/
import Derived.Test.YtkdphgcbecldbaaDevS
import Derived.Test.YtkdphgcbecldbaaDevT
namespace Go.Proofs.Ytkdphgcbecldbaa
open Go.RowKit
attribute [local go_sem ↓] wp_ld93 wp_st93
theorem rotF_done (m f : Nat) (cl : List Nat) (h : m = 0 ∨ 2048 ≤ f) : rotF (2048 - f) m f cl = cl := by
  rcases h with rfl | h
  · cases 2048 - f with
    | zero => rfl
    | succ r => unfold rotF; rw [if_pos rfl]
  · rw [show 2048 - f = 0 by omega]; rfl
theorem rotF_go (m f : Nat) (cl : List Nat) (h : m ≠ 0) (hf : f < 2048) : rotF (2048 - f) m f cl = rotF (2048 - (f + 1)) (m / 2) (f + 1) (cl.set (f / 8) (cl.getD (f / 8) 0 ^^^ m % 2 * 2 ^ (f % 8))) := by
  rw [show 2048 - f = (2048 - (f + 1)) + 1 by omega]
  conv => lhs; unfold rotF
  rw [if_neg h]
set_option maxRecDepth 100000 in
set_option maxHeartbeats 1000000 in
theorem rot_out (D : Dk) (n bit : Int) (m : Int) (w : World) (h : Dsk w D) (hn : n < 0 ∨ (D.k : Int) ≤ n) :
    Calls Try.prog 35 #[.pointer (some ⟨D.d, 0, none⟩), .int .i64 n, .int .i64 bit, .int .u32 m] w fun r w' => r = .returned (.int .i64 2) ∧ Mv w D w' D := by
  have HH := Lib.hid h
  have HN := Lib.hid hn
  clear h hn
  go_enter Try.func35, Try.ntmps35
  go_wp2_with fail
  refine (there_no D n _ HH.out HN.out).mono ?_
  rintro e w1 ⟨rfl, rfl⟩
  go_wp2_with fail
  refine (told_at n 2 _ (by omega)).mono ?_
  rintro e w2 ⟨rfl, hg⟩
  go_wp2_with fail
  go_ret
  exact ⟨rfl, Mv.gr HH.out hg⟩
set_option maxRecDepth 100000 in
set_option maxHeartbeats 1000000 in
theorem rot_far (D : Dk) (n bit : Int) (m : Int) (w : World) (h : Dsk w D) (h0 : 0 ≤ n) (h1 : n < D.k) (hb : bit < 0 ∨ 2048 ≤ bit) :
    Calls Try.prog 35 #[.pointer (some ⟨D.d, 0, none⟩), .int .i64 n, .int .i64 bit, .int .u32 m] w fun r w' => r = .returned (.int .i64 2) ∧ Mv w D w' D := by
  have HH := Lib.hid h
  clear h
  rcases hb with hb | hb
  all_goals (
    go_enter Try.func35, Try.ntmps35
    go_wp2_with fail
    refine (there_ok D n _ HH.out h0 h1).mono ?_
    rintro e w1 ⟨rfl, rfl⟩
    go_wp2_with fail
    go_ret
    exact ⟨rfl, Mv.refl HH.out⟩)
set_option maxRecDepth 100000 in
set_option maxHeartbeats 1000000 in
theorem rot_by (D D' : Dk) (ev : De) (n bit m : Nat) (w : World) (h : Dsk w D) (hn : n < D.k) (hb : bit < 2048) (hm : m < 4294967296) (hf : ev.fair)
    (HB : Hid (∀ W, Dsk W D → Calls Try.prog 60 #[.pointer (some ⟨D.d, 0, none⟩), .int .i64 n, .agg (bvs (rotB (D.bl n) bit m)).toArray] W fun r w' => r = .returned ev.v ∧ Mv W D w' D')) :
    Calls Try.prog 35 #[.pointer (some ⟨D.d, 0, none⟩), .int .i64 n, .int .i64 bit, .int .u32 m] w fun r w' => r = .returned (.int .i64 ev.num) ∧ Mv w D w' D' := by
  have HT := Lib.hid (told_any ev hf)
  have HH := Lib.hid h
  have h4 := h.c 4 rfl
  have hl := (h.bln n hn).1
  have hsm := (h.bln n hn).2
  have hlen : (bvs (D.bl n)).length = 256 := by rw [bvs_len]; exact hl
  have hld := ldv93 (h.bls n hn) hlen
  have hst := stv93_new w (bvs (D.bl n)).toArray (by rw [List.size_toArray]; exact hlen) (all_oneCell_toArray (bvs_one _))
  have HNEW := Lib.hid (heap_alloc_new w (.cells (bvs (D.bl n)).toArray 93))
  have HGR := Lib.hid (Gr.at_alloc w (.cells (bvs (D.bl n)).toArray 93))
  have hl' := hl
  have HSM := Lib.hid hsm
  have HL := Lib.hid hl'
  have b1 : (0 : Int) ≤ (n : Int) := by omega
  have b2 : (n : Int) < (D.k : Int) := by omega
  clear h hf hsm hl hlen hl'
  generalize hX : (bvs (D.bl n)).toArray = X at *
  have HX := Lib.hid hX
  clear hX
  go_enter Try.func35, Try.ntmps35
  go_wp2_with fail
  refine (there_ok D n _ HH.out (by omega) (by omega)).mono ?_
  rintro e w1 ⟨rfl, rfl⟩
  go_wp2_with fail
  go_loopw [2, 3] (fun b t wr => ∃ (f q : Nat) (cl : List Nat), f ≤ 2048 ∧ b = .int .i64 f ∧ t = .int .u32 q ∧ q < 4294967296 ∧ Hid (wr.heap[w.heap.size]? = some (.cells (bvs cl).toArray 93 (0, 0))) ∧ Hid (Small cl) ∧ Hid (cl.length = 256) ∧ Hid (rotF (2048 - f) q f cl = rotB (D.bl n) bit m) ∧ Gr w wr) (fun b _ _ => 2048 - (intOf b).toNat)
  case atStart => exact ⟨bit, m, D.bl n, by omega, rfl, rfl, hm, by rw [HX.out]; exact HNEW.out, HSM.out, HL.out, rfl, HGR.out⟩
  case round =>
    obtain ⟨f, q, cl, hf, rfl, rfl, hq, HC, HS2, HL2, HROT, hg⟩ := hrel
    by_cases hgo : q ≠ 0 ∧ f < 2048
    · obtain ⟨hq0, hf2⟩ := hgo
      have hj : f / 8 < cl.length := by rw [HL2.out]; omega
      have hcell : wr.cell? ⟨w.heap.size, f / 8, none⟩ = some (.int .u8 ((cl.getD (f / 8) 0 : Nat) : Int)) := by
        rw [cell_of_row _ _ _ _ _ _ HC.out, List.getElem?_toArray]
        have hl : f / 8 < (bvs cl).length := by rw [bvs_len]; exact hj
        rw [List.getElem?_eq_getElem hl]
        exact congrArg some (bvs_at (List.getElem?_eq_getElem hl)).2
      have hfro : wr.frozen? ⟨w.heap.size, f / 8, none⟩ = false := frozen_of_row _ _ _ _ _ HC.out
      have hx8 : cl.getD (f / 8) 0 < 256 := HS2.out.at_ _
      have hgo := rotF_go q f cl hq0 hf2
      have HGO := Lib.hid hgo
      clear hgo
      generalize hx : cl.getD (f / 8) 0 = x at *
      have HXE := Lib.hid hx
      clear hx
      have e1 : ((f : Int)).tdiv 8 = ((f / 8 : Nat) : Int) := by rw [Int.tdiv_eq_ediv_of_nonneg (by omega)]; omega
      have e2 : ((f : Int)).tmod 8 = ((f % 8 : Nat) : Int) := by rw [Int.tmod_eq_emod_of_nonneg (by omega)]; omega
      generalize hJ : f / 8 = J at *
      generalize hR : f % 8 = R at *
      have HJ := Lib.hid hJ
      have HR := Lib.hid hR
      have hR8 : R < 8 := by omega
      have hJ8 : J < 256 := by omega
      have hq1 : ((q : Int) != 0) = true := by simp; omega
      have hf3 : (f : Int) < 2048 := by omega
      have e4 : bits .and .u32 (q : Int) 1 = ((q % 2 : Nat) : Int) := and1 q hq
      have hb1 : q % 2 < 2 := Nat.mod_lt _ (by decide)
      generalize hbt : q % 2 = bt at *
      have HBT := Lib.hid hbt
      have e5 : IntKind.u8.wrap (bt : Int) = (bt : Int) := IntWalk.u8_in _ (by omega)
      have e6 : IntKind.i64.wrap (J : Int) = (J : Int) := IntWalk.i64_in _ (by omega)
      have e7 : IntKind.i64.wrap (R : Int) = (R : Int) := IntWalk.i64_in _ (by omega)
      have b3 : (0 : Int) ≤ (J : Int) := by omega
      have b4 : (J : Int) < 256 := by omega
      have b5 : (0 : Int) ≤ (R : Int) := by omega
      clear hbt
      go_wp2_with fail
      go_still_tail 12, (by kernel_rfl)
      change wpList _ _ _ _ _ wr.drew
      have e8 : bits .xor .u8 (x : Int) ((bt : Int) * 2 ^ R % 256) = ((x ^^^ bt * 2 ^ R : Nat) : Int) := by
        have h := bt_lt bt R hb1 hR8
        rw [show (bt : Int) * 2 ^ R % 256 = ((bt * 2 ^ R : Nat) : Int) by
          rw [show (bt : Int) * 2 ^ R = ((bt * 2 ^ R : Nat) : Int) by simp]; omega, u8_xor_nat _ _ hx8 (by omega)]
      have HE8 := Lib.hid e8
      have hy8 : x ^^^ bt * 2 ^ R < 256 := Nat.xor_lt_two_pow (n := 8) hx8 (bt_lt bt R hb1 hR8)
      clear e8
      go_wp2_with fail
      refine ⟨⟨f + 1, q / 2, cl.set J (x ^^^ bt * 2 ^ R), by omega, by go_num, by go_num, by omega, ?_, small_set HS2.out _ hy8, (List.length_set ..).trans HL2.out, ?_, ?_⟩, by simp [intOf]; omega⟩
      · show (wr.setCell _ _).heap[w.heap.size]? = _
        rw [HE8.out]
        have hh := heap_setCell_same wr w.heap.size J (bvs cl).toArray 93 (.int .u8 ((x ^^^ bt * 2 ^ R : Nat) : Int)) HC.out
        rw [hh, List.setIfInBounds_toArray]
        have e9 : bvs (cl.set J (x ^^^ bt * 2 ^ R)) = (bvs cl).set J (.int .u8 ((x ^^^ bt * 2 ^ R : Nat) : Int)) := List.map_set ..
        rw [e9]
      · rw [← HGO.out]; exact HROT.out
      · exact Below.drew (Below.setCell hg (Nat.le_refl _) _)
    · have hdone := rotF_done q f cl (by omega)
      rw [HROT.out] at hdone
      have hr : wr.rangeAt w.heap.size 0 (bvs cl) := fun j v hv => by
        rw [cell_of_row _ _ _ _ _ _ HC.out, Nat.zero_add, List.getElem?_toArray]; exact hv
      have hl3 := ldv93 hr (by rw [bvs_len]; exact HL2.out)
      rw [← hdone] at hl3
      have hcall := HB.out wr (HH.out.gr hg)
      have HCALL := Lib.hid hcall
      clear hr hdone hcall
      generalize (bvs (rotB (D.bl n) bit m)).toArray = Y at *
      have htest : ((q : Int) != 0) = false ∨ (((q : Int) != 0) = true ∧ 2048 ≤ (f : Int)) := by
        rcases Nat.eq_zero_or_pos q with h | h
        · exact .inl (by simp [h])
        · exact .inr ⟨by simp; omega, by omega⟩
      have HG := Lib.hid hg
      clear hg
      rcases htest with htest | ⟨htest, htest2⟩
      all_goals (
        go_wp2_with fail
        refine HCALL.out.mono ?_
        rintro e w2 ⟨rfl, hm2⟩
        have HM2 := Lib.hid hm2
        clear hm2
        go_wp2_with fail
        refine (HT.out _).mono ?_
        rintro e w3 ⟨rfl, hg3⟩
        go_wp2_with fail
        go_ret
        exact ⟨rfl, ((Mv.gr HH.out HG.out).trans HM2.out).trans (Mv.gr HM2.out.2.1 hg3)⟩)
/-- bits of a block turned: it is as it was; it is hurt; it is another now -/
theorem rot_same (D : Dk) (n bit m : Nat) (w : World) (h : Dsk w D) (hn : n < D.k) (hb : bit < 2048) (hm : m < 4294967296) (hr : rotB (D.bl n) bit m = D.bl n) :
    Calls Try.prog 35 #[.pointer (some ⟨D.d, 0, none⟩), .int .i64 n, .int .i64 bit, .int .u32 m] w fun r w' => r = .returned (.int .i64 2) ∧ Mv w D w' D :=
  rot_by D D (.at_ n 2) n bit m w h hn hb hm (.inr (.inr (.inl rfl))) (fun W hW => become_same D n W hW hn _ hr)
theorem rot_hurt (D : Dk) (n bit m : Nat) (w : World) (h : Dsk w D) (hn : n < D.k) (hb : bit < 2048) (hm : m < 4294967296) (hr : rotB (D.bl n) bit m ≠ D.bl n) (hh : D.hu n = true) :
    Calls Try.prog 35 #[.pointer (some ⟨D.d, 0, none⟩), .int .i64 n, .int .i64 bit, .int .u32 m] w fun r w' => r = .returned (.int .i64 16) ∧ Mv w D w' D :=
  rot_by D D (.at_ n 16) n bit m w h hn hb hm (.inr (.inr (.inr rfl))) (fun W hW => become_hurt D n W hW hn _ ((rotF_len _ _ _ _).trans (h.bln n hn).1) hr hh)
theorem rot_ok (D : Dk) (n bit m : Nat) (w : World) (h : Dsk w D) (hn : n < D.k) (hb : bit < 2048) (hm : m < 4294967296) (hr : rotB (D.bl n) bit m ≠ D.bl n) (hh : D.hu n = false) :
    Calls Try.prog 35 #[.pointer (some ⟨D.d, 0, none⟩), .int .i64 n, .int .i64 bit, .int .u32 m] w fun r w' => r = .returned (.int .i64 0) ∧ Mv w D w' { D with bl := upd D.bl n (rotB (D.bl n) bit m), hu := upd D.hu n true } :=
  rot_by D _ .ok n bit m w h hn hb hm trivial (fun W hW => become_ok D n W hW hn _ ((rotF_len _ _ _ _).trans (h.bln n hn).1) (rotF_small _ _ _ _ (h.bln n hn).2) hr hh)
end Go.Proofs.Ytkdphgcbecldbaa
