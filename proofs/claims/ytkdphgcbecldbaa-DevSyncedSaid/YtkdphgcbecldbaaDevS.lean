/- The disk: Wipe. -/
import Derived.Test.YtkdphgcbecldbaaDevR
namespace Go.Proofs.Ytkdphgcbecldbaa
open Go.RowKit
theorem zb93 : Try.zeroCells93 = (bvs (Z 256)).toArray := by
  rw [z93, bvs_Z]
  unfold Zb
  apply Array.ext'
  rw [Array.toList_replicate]
set_option maxRecDepth 100000 in
set_option maxHeartbeats 1000000 in
theorem wipe_out (D : Dk) (n : Int) (w : World) (h : Dsk w D) (hn : n < 0 ∨ (D.k : Int) ≤ n) :
    Calls Try.prog 36 #[.pointer (some ⟨D.d, 0, none⟩), .int .i64 n] w fun r w' => r = .returned (.int .i64 2) ∧ Mv w D w' D := by
  have HH := Lib.hid h
  have HN := Lib.hid hn
  clear h hn
  go_enter Try.func36, Try.ntmps36
  go_wp2_with fail
  refine (there_no D n _ HH.out HN.out).mono ?_
  rintro e w1 ⟨rfl, rfl⟩
  go_wp2_with fail
  refine (told_at n 2 _ (by omega)).mono ?_
  rintro e w2 ⟨rfl, hg⟩
  go_wp2_with fail
  go_ret
  exact ⟨rfl, Mv.gr HH.out hg⟩
set_option maxRecDepth 100000 in
set_option maxHeartbeats 1000000 in
theorem wipe_same (D : Dk) (n : Nat) (w : World) (h : Dsk w D) (hn : n < D.k) (hz : Z 256 = D.bl n) :
    Calls Try.prog 36 #[.pointer (some ⟨D.d, 0, none⟩), .int .i64 n] w fun r w' => r = .returned (.int .i64 2) ∧ Mv w D w' D := by
  have HB := Lib.hid (become_same D n w h hn (Z 256) hz)
  rw [← zb93] at HB
  have HH := Lib.hid h
  clear h hz
  go_enter Try.func36, Try.ntmps36
  go_wp2_with fail
  refine (there_ok D n _ HH.out (by omega) (by omega)).mono ?_
  rintro e w1 ⟨rfl, rfl⟩
  go_wp2_with fail
  refine HB.out.mono ?_
  rintro e w1 ⟨rfl, hm⟩
  have HM := Lib.hid hm
  clear hm
  go_wp2_with fail
  refine (told_at n 2 _ (by omega)).mono ?_
  rintro e w2 ⟨rfl, hg⟩
  go_wp2_with fail
  go_ret
  exact ⟨rfl, HM.out.trans (Mv.gr HM.out.2.1 hg)⟩
set_option maxRecDepth 100000 in
set_option maxHeartbeats 1000000 in
theorem wipe_hurt (D : Dk) (n : Nat) (w : World) (h : Dsk w D) (hn : n < D.k) (hz : Z 256 ≠ D.bl n) (hh : D.hu n = true) :
    Calls Try.prog 36 #[.pointer (some ⟨D.d, 0, none⟩), .int .i64 n] w fun r w' => r = .returned (.int .i64 16) ∧ Mv w D w' D := by
  have HB := Lib.hid (become_hurt D n w h hn (Z 256) (Z_len 256) hz hh)
  rw [← zb93] at HB
  have HH := Lib.hid h
  clear h hz hh
  go_enter Try.func36, Try.ntmps36
  go_wp2_with fail
  refine (there_ok D n _ HH.out (by omega) (by omega)).mono ?_
  rintro e w1 ⟨rfl, rfl⟩
  go_wp2_with fail
  refine HB.out.mono ?_
  rintro e w1 ⟨rfl, hm⟩
  have HM := Lib.hid hm
  clear hm
  go_wp2_with fail
  refine (told_at n 16 _ (by omega)).mono ?_
  rintro e w2 ⟨rfl, hg⟩
  go_wp2_with fail
  go_ret
  exact ⟨rfl, HM.out.trans (Mv.gr HM.out.2.1 hg)⟩
set_option maxRecDepth 100000 in
set_option maxHeartbeats 1000000 in
theorem wipe_ok (D : Dk) (n : Nat) (w : World) (h : Dsk w D) (hn : n < D.k) (hz : Z 256 ≠ D.bl n) (hh : D.hu n = false) :
    Calls Try.prog 36 #[.pointer (some ⟨D.d, 0, none⟩), .int .i64 n] w fun r w' => r = .returned (.int .i64 0) ∧ Mv w D w' { D with bl := upd D.bl n (Z 256), hu := upd D.hu n true } := by
  have HB := Lib.hid (become_ok D n w h hn (Z 256) (Z_len 256) (small_zero 256) hz hh)
  rw [← zb93] at HB
  have HH := Lib.hid h
  clear h hz hh
  go_enter Try.func36, Try.ntmps36
  go_wp2_with fail
  refine (there_ok D n _ HH.out (by omega) (by omega)).mono ?_
  rintro e w1 ⟨rfl, rfl⟩
  go_wp2_with fail
  refine HB.out.mono ?_
  rintro e w1 ⟨rfl, hm⟩
  have HM := Lib.hid hm
  clear hm
  go_wp2_with fail
  refine (told_ok _).mono ?_
  rintro e w2 ⟨rfl, hg⟩
  go_wp2_with fail
  go_ret
  exact ⟨rfl, HM.out.trans (Mv.gr HM.out.2.1 hg)⟩
end Go.Proofs.Ytkdphgcbecldbaa
