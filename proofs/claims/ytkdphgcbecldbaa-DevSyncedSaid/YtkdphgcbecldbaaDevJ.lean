/- The disk: Write, where it does not write. -/
import Derived.Test.YtkdphgcbecldbaaDevI
namespace Go.Proofs.Ytkdphgcbecldbaa
open Go.RowKit
theorem told_cd (c : Int) (w : World) (hc : c = 1 ∨ c = 11 ∨ c = 2 ∨ c = 16) : Calls Try.prog 56 #[.iface 89 (.int .i64 c)] w fun r w' => r = .returned (.int .i64 c) ∧ Gr w w' := told_any (.cd c) hc w
theorem told_at (n c : Int) (w : World) (hc : c = 1 ∨ c = 11 ∨ c = 2 ∨ c = 16) : Calls Try.prog 56 #[.iface 91 (.agg #[.int .i64 n, .iface 89 (.int .i64 c)])] w fun r w' => r = .returned (.int .i64 c) ∧ Gr w w' := told_any (.at_ n c) hc w
set_option maxRecDepth 100000 in
set_option maxHeartbeats 1000000 in
theorem write_down (D : Dk) (n : Int) (s : Value) (w : World) (h : Dsk w D) (hd : D.dn = true) :
    Calls Try.prog 26 #[.pointer (some ⟨D.d, 0, none⟩), .int .i64 n, s] w fun r w' => r = .returned (.int .i64 11) ∧ Mv w D w' D := by
  have HH := Lib.hid h
  have Hd := Lib.hid hd
  clear h hd
  by_cases hn : n < 0 ∨ (D.k : Int) ≤ n
  · have HN := Lib.hid hn
    clear hn
    go_enter Try.func26, Try.ntmps26
    go_wp2_with fail
    refine (up_no D _ HH.out Hd.out).mono ?_
    rintro e w1 ⟨rfl, rfl⟩
    go_wp2_with fail
    refine (there_no D n _ HH.out HN.out).mono ?_
    rintro e w1 ⟨rfl, rfl⟩
    go_wp2_with fail
    refine (first_nn _ _ 11 n 2 (heap_alloc_new w _)).mono ?_
    rintro e w1 ⟨rfl, rfl⟩
    have HG := Lib.hid (Gr.at_alloc w (.cells #[.iface 89 (.int .i64 11), .iface 91 (.agg #[.int .i64 n, .iface 89 (.int .i64 2)])] 70))
    generalize w.alloc (.cells #[.iface 89 (.int .i64 11), .iface 91 (.agg #[.int .i64 n, .iface 89 (.int .i64 2)])] 70) = W at *
    go_wp2_with fail
    refine (told_cd 11 _ (by omega)).mono ?_
    rintro e w2 ⟨rfl, hg⟩
    go_wp2_with fail
    go_ret
    exact ⟨rfl, Mv.gr HH.out (Gr.step hg HG.out)⟩
  · have h0 : 0 ≤ n := by omega
    have h1 : n < D.k := by omega
    clear hn
    go_enter Try.func26, Try.ntmps26
    go_wp2_with fail
    refine (up_no D _ HH.out Hd.out).mono ?_
    rintro e w1 ⟨rfl, rfl⟩
    go_wp2_with fail
    refine (there_ok D n _ HH.out h0 h1).mono ?_
    rintro e w1 ⟨rfl, rfl⟩
    go_wp2_with fail
    refine (first_no _ _ 11 (heap_alloc_new w _)).mono ?_
    rintro e w1 ⟨rfl, rfl⟩
    have HG := Lib.hid (Gr.at_alloc w (.cells #[.iface 89 (.int .i64 11), .nilIface] 70))
    generalize w.alloc (.cells #[.iface 89 (.int .i64 11), .nilIface] 70) = W at *
    go_wp2_with fail
    refine (told_cd 11 _ (by omega)).mono ?_
    rintro e w2 ⟨rfl, hg⟩
    go_wp2_with fail
    go_ret
    exact ⟨rfl, Mv.gr HH.out (Gr.step hg HG.out)⟩
set_option maxRecDepth 100000 in
set_option maxHeartbeats 1000000 in
theorem write_out (D : Dk) (n : Int) (s : Value) (w : World) (h : Dsk w D) (hd : D.dn = false) (hn : n < 0 ∨ (D.k : Int) ≤ n) :
    Calls Try.prog 26 #[.pointer (some ⟨D.d, 0, none⟩), .int .i64 n, s] w fun r w' => r = .returned (.int .i64 2) ∧ Mv w D w' D := by
  have HH := Lib.hid h
  have Hd := Lib.hid hd
  have HN := Lib.hid hn
  clear h hd hn
  go_enter Try.func26, Try.ntmps26
  go_wp2_with fail
  refine (up_ok D _ HH.out Hd.out).mono ?_
  rintro e w1 ⟨rfl, rfl⟩
  go_wp2_with fail
  refine (there_no D n _ HH.out HN.out).mono ?_
  rintro e w1 ⟨rfl, rfl⟩
  go_wp2_with fail
  refine (first_on _ _ n 2 (heap_alloc_new w _)).mono ?_
  rintro e w1 ⟨rfl, rfl⟩
  have HG := Lib.hid (Gr.at_alloc w (.cells #[.nilIface, .iface 91 (.agg #[.int .i64 n, .iface 89 (.int .i64 2)])] 70))
  generalize w.alloc (.cells #[.nilIface, .iface 91 (.agg #[.int .i64 n, .iface 89 (.int .i64 2)])] 70) = W at *
  go_wp2_with fail
  refine (told_at n 2 _ (by omega)).mono ?_
  rintro e w2 ⟨rfl, hg⟩
  go_wp2_with fail
  go_ret
  exact ⟨rfl, Mv.gr HH.out (Gr.step hg HG.out)⟩
set_option maxRecDepth 100000 in
set_option maxHeartbeats 1000000 in
theorem write_long (D : Dk) (n : Int) (A : Option Addr) (len c : Nat) (w : World) (h : Dsk w D) (hd : D.dn = false) (h0 : 0 ≤ n) (h1 : n < D.k) (hl : 256 < len) :
    Calls Try.prog 26 #[.pointer (some ⟨D.d, 0, none⟩), .int .i64 n, .slice A len c] w fun r w' => r = .returned (.int .i64 2) ∧ Mv w D w' D := by
  have HH := Lib.hid h
  have Hd := Lib.hid hd
  clear h hd
  go_enter Try.func26, Try.ntmps26
  go_wp2_with fail
  refine (up_ok D _ HH.out Hd.out).mono ?_
  rintro e w1 ⟨rfl, rfl⟩
  go_wp2_with fail
  refine (there_ok D n _ HH.out h0 h1).mono ?_
  rintro e w1 ⟨rfl, rfl⟩
  go_wp2_with fail
  refine (first_oo _ _ (heap_alloc_new w _)).mono ?_
  rintro e w1 ⟨rfl, rfl⟩
  have HG := Lib.hid (Gr.at_alloc w (.cells #[.nilIface, .nilIface] 70))
  generalize w.alloc (.cells #[.nilIface, .nilIface] 70) = W at *
  go_wp2_with fail
  refine (told_at n 2 _ (by omega)).mono ?_
  rintro e w2 ⟨rfl, hg⟩
  go_wp2_with fail
  go_ret
  exact ⟨rfl, Mv.gr HH.out (Gr.step hg HG.out)⟩
set_option maxRecDepth 100000 in
set_option maxHeartbeats 1000000 in
theorem write_fall (D : Dk) (n : Int) (A : Option Addr) (len c : Nat) (w : World) (h : Dsk w D) (hd : D.dn = false) (h0 : 0 ≤ n) (h1 : n < D.k) (hl : len ≤ 256) (ha : D.ar = 1) :
    Calls Try.prog 26 #[.pointer (some ⟨D.d, 0, none⟩), .int .i64 n, .slice A len c] w fun r w' => r = .returned (.int .i64 11) ∧ Mv w D w' D.fall := by
  have HH := Lib.hid h
  have Hd := Lib.hid hd
  have HA := Lib.hid ha
  clear h hd ha
  go_enter Try.func26, Try.ntmps26
  go_wp2_with fail
  refine (up_ok D _ HH.out Hd.out).mono ?_
  rintro e w1 ⟨rfl, rfl⟩
  go_wp2_with fail
  refine (there_ok D n _ HH.out h0 h1).mono ?_
  rintro e w1 ⟨rfl, rfl⟩
  go_wp2_with fail
  refine (first_oo _ _ (heap_alloc_new w _)).mono ?_
  rintro e w1 ⟨rfl, rfl⟩
  have HG := Lib.hid (Gr.at_alloc w (.cells #[.nilIface, .nilIface] 70))
  generalize w.alloc (.cells #[.nilIface, .nilIface] 70) = W at *
  go_wp2_with fail
  refine (turn_no D _ (HH.out.gr HG.out) HA.out).mono ?_
  rintro e w1 ⟨rfl, hm⟩
  simp only [De.v]
  have HM := Lib.hid hm
  clear hm
  go_wp2_with fail
  refine (told_cd 11 _ (by omega)).mono ?_
  rintro e w2 ⟨rfl, hg⟩
  go_wp2_with fail
  go_ret
  exact ⟨rfl, ((Mv.gr HH.out HG.out).trans HM.out).trans (Mv.gr HM.out.2.1 hg)⟩
end Go.Proofs.Ytkdphgcbecldbaa
