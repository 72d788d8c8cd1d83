/- The disk: Crash, Arm, Stored. -/
import Derived.Test.YtkdphgcbecldbaaDevO
namespace Go.Proofs.Ytkdphgcbecldbaa
open Go.RowKit
attribute [local go_sem ↓] wp_ld93 wp_st93
set_option maxHeartbeats 1000000 in
theorem crash_ok (D : Dk) (w : World) (h : Dsk w D) (hd : D.dn = false) :
    Calls Try.prog 30 #[.pointer (some ⟨D.d, 0, none⟩)] w fun r w' => r = .returned (.int .i64 0) ∧ Mv w D w' D.fall := by
  have HH := Lib.hid h
  have Hd := Lib.hid hd
  clear h hd
  go_enter Try.func30, Try.ntmps30
  go_wp2_with fail
  refine (up_ok D _ HH.out Hd.out).mono ?_
  rintro e w1 ⟨rfl, rfl⟩
  go_wp2_with fail
  refine (fall_any D _ HH.out).mono ?_
  rintro e w1 ⟨rfl, hm⟩
  have HM := Lib.hid hm
  clear hm
  go_wp2_with fail
  refine (told_ok _).mono ?_
  rintro e w2 ⟨rfl, hg⟩
  go_wp2_with fail
  go_ret
  exact ⟨rfl, HM.out.trans (Mv.gr HM.out.2.1 hg)⟩
set_option maxHeartbeats 1000000 in
theorem crash_down (D : Dk) (w : World) (h : Dsk w D) (hd : D.dn = true) :
    Calls Try.prog 30 #[.pointer (some ⟨D.d, 0, none⟩)] w fun r w' => r = .returned (.int .i64 11) ∧ Mv w D w' D := by
  have HH := Lib.hid h
  have Hd := Lib.hid hd
  clear h hd
  go_enter Try.func30, Try.ntmps30
  go_wp2_with fail
  refine (up_no D _ HH.out Hd.out).mono ?_
  rintro e w1 ⟨rfl, rfl⟩
  go_wp2_with fail
  refine (told_cd 11 _ (by omega)).mono ?_
  rintro e w2 ⟨rfl, hg⟩
  go_wp2_with fail
  go_ret
  exact ⟨rfl, Mv.gr HH.out hg⟩
set_option maxHeartbeats 1000000 in
theorem arm_ok (D : Dk) (n : Int) (w : World) (h : Dsk w D) (hd : D.dn = false) (hn : n ≤ 9223372036854775807) :
    Calls Try.prog 65 #[.pointer (some ⟨D.d, 0, none⟩), .int .i64 n] w fun r w' => r = .returned (.tuple #[]) ∧ Mv w D w' { D with ar := max n 0 } := by
  have HH := Lib.hid h
  have Hd := Lib.hid hd
  have h2 := h.c 2 rfl
  have f2 := h.f 2 (by omega)
  clear h hd
  by_cases h0 : n < 0
  · have hm := Mv.put (D' := { D with ar := max n 0 }) HH.out 2 (.int .i64 0) (by omega) (by rw [show max n 0 = 0 by omega]; rfl) (by simp only; omega) rfl
    have HM := Lib.hid hm
    clear hm
    go_enter Try.func65, Try.ntmps65
    go_wp2_with fail
    refine (up_ok D _ HH.out Hd.out).mono ?_
    rintro e w1 ⟨rfl, rfl⟩
    go_wp2_with fail
    go_end0
    exact ⟨rfl, HM.out⟩
  · have hm := Mv.put (D' := { D with ar := max n 0 }) HH.out 2 (.int .i64 n) (by omega) (by rw [show max n 0 = n by omega]; rfl) (by simp only; omega) rfl
    have HM := Lib.hid hm
    clear hm
    go_enter Try.func65, Try.ntmps65
    go_wp2_with fail
    refine (up_ok D _ HH.out Hd.out).mono ?_
    rintro e w1 ⟨rfl, rfl⟩
    go_wp2_with fail
    go_end0
    exact ⟨rfl, HM.out⟩
set_option maxHeartbeats 1000000 in
theorem arm_down (D : Dk) (n : Int) (w : World) (h : Dsk w D) (hd : D.dn = true) :
    Calls Try.prog 65 #[.pointer (some ⟨D.d, 0, none⟩), .int .i64 n] w fun r w' => r = .returned (.tuple #[]) ∧ Mv w D w' D := by
  have HH := Lib.hid h
  have Hd := Lib.hid hd
  clear h hd
  go_enter Try.func65, Try.ntmps65
  go_wp2_with fail
  refine (up_no D _ HH.out Hd.out).mono ?_
  rintro e w1 ⟨rfl, rfl⟩
  go_wp2_with fail
  go_end0
  exact ⟨rfl, Mv.refl HH.out⟩
theorem z93 : Try.zeroCells93 = Zb := by kernel_rfl
theorem stv93_new (w : World) (cells : Array Value) (hl : cells.size = 256) (h1 : cells.all (·.oneCell') = true) : stv 93 (.pointer (some ⟨w.heap.size, 0, none⟩)) (.agg cells) (w.alloc (.cells Try.zeroCells93 93)) = .ok () (w.alloc (.cells cells 93)) :=
  run_storeAt_new w 93 _ cells (by rw [hl]; exact sz93) (by rw [hl, z93]; unfold Zb; exact Array.size_replicate) h1
set_option maxHeartbeats 1000000 in
theorem stored_ok (D : Dk) (n : Nat) (w : World) (h : Dsk w D) (hn : n < D.k) :
    Calls Try.prog 29 #[.pointer (some ⟨D.d, 0, none⟩), .int .i64 n] w fun r w' => r = .returned (.slice (some ⟨w.heap.size, 0, none⟩) 256 256) ∧ w' = w.alloc (.cells (bvs (D.bl n)).toArray 93) := by
  have HH := Lib.hid h
  have h4 := h.c 4 rfl
  have hlen : (bvs (D.bl n)).length = 256 := by rw [bvs_len]; exact (h.bln n hn).1
  have hld := ldv93 (h.bls n hn) hlen
  have hst := stv93_new w (bvs (D.bl n)).toArray (by rw [List.size_toArray]; exact hlen) (all_oneCell_toArray (bvs_one _))
  generalize (bvs (D.bl n)).toArray = X at *
  clear h hlen
  have b1 : (0 : Int) ≤ (n : Int) := by omega
  have b2 : (n : Int) < (D.k : Int) := by omega
  go_enter Try.func29, Try.ntmps29
  go_wp2_with fail
  refine (there_ok D n _ HH.out (by omega) (by omega)).mono ?_
  rintro e w1 ⟨rfl, rfl⟩
  go_wp2_with fail
  go_ret
  exact ⟨rfl, rfl⟩
set_option maxHeartbeats 1000000 in
theorem stored_no (D : Dk) (n : Int) (w : World) (h : Dsk w D) (hn : n < 0 ∨ (D.k : Int) ≤ n) :
    Calls Try.prog 29 #[.pointer (some ⟨D.d, 0, none⟩), .int .i64 n] w fun r w' => r = .returned (.slice none 0 0) ∧ w = w' := by
  have HH := Lib.hid h
  have HN := Lib.hid hn
  clear h hn
  go_enter Try.func29, Try.ntmps29
  go_wp2_with fail
  refine (there_no D n _ HH.out HN.out).mono ?_
  rintro e w1 ⟨rfl, rfl⟩
  go_wp2_with fail
  go_ret
  exact ⟨rfl, rfl⟩
end Go.Proofs.Ytkdphgcbecldbaa
