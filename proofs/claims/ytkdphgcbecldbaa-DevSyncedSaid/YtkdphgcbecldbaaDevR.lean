/- The disk: become. -/
import Derived.Test.YtkdphgcbecldbaaDevQ
import Derived.Deep.RegionLaw
namespace Go.Proofs.Ytkdphgcbecldbaa
open Go.RowKit
attribute [local go_sem ↓] wp_ld93 wp_st93
set_option maxRecDepth 100000 in
set_option maxHeartbeats 1000000 in
theorem become_same (D : Dk) (n : Nat) (w : World) (h : Dsk w D) (hn : n < D.k) (c : List Nat) (hc : c = D.bl n) :
    Calls Try.prog 60 #[.pointer (some ⟨D.d, 0, none⟩), .int .i64 n, .agg (bvs c).toArray] w fun r w' => r = .returned (.iface 91 (.agg #[.int .i64 n, .iface 89 (.int .i64 2)])) ∧ Mv w D w' D := by
  have hlen : (bvs (D.bl n)).length = 256 := by rw [bvs_len]; exact (h.bln n hn).1
  have hl2 := (h.bln n hn).1
  have hgr := Gr.at_alloc w (.cells (bvs c).toArray 93)
  have hD := h.gr hgr
  have heq := fun W : World => eql93 W c (D.bl n) (by rw [hc]; exact hl2) hl2
  rw [decide_eq_true hc] at heq
  have h4 := hD.c 4 rfl
  have hr1 : (w.alloc (.cells (bvs c).toArray 93)).rangeAt w.heap.size 0 (bvs c) := fun j v hv => by
    rw [cell_of_row _ _ _ _ _ _ (heap_alloc_new w _), Nat.zero_add, List.getElem?_toArray]; exact hv
  have hr2 := hD.bls n hn
  have hlc : (bvs c).length = 256 := by rw [hc]; exact hlen
  have hld1 := ldv93 ((World.rangeAt_drew _ _ _ _).2 hr1) hlc
  have hld2 := ldv93 ((World.rangeAt_drew _ _ _ _).2 hr2) hlen
  have HH := Lib.hid h
  have HGR := Lib.hid hgr
  clear h hD hc hl2 hlen hlc hgr hr1 hr2
  generalize (bvs c).toArray = c1 at *
  generalize (bvs (D.bl n)).toArray = c2 at *
  have b1 : (0 : Int) ≤ (n : Int) := by omega
  have b2 : (n : Int) < (D.k : Int) := by omega
  go_enter Try.func60, Try.ntmps60
  go_wp2_with fail
  generalize w.alloc (.cells c1 93) = W at *
  generalize w.heap.size = x at *
  go_region_law (fail)
  all_goals (
    go_wp2_with fail
    go_ret
    exact ⟨rfl, Mv.gr HH.out (Below.drew HGR.out)⟩)
set_option maxRecDepth 100000 in
set_option maxHeartbeats 1000000 in
theorem become_hurt (D : Dk) (n : Nat) (w : World) (h : Dsk w D) (hn : n < D.k) (c : List Nat) (hcl : c.length = 256) (hc : c ≠ D.bl n) (hh : D.hu n = true) :
    Calls Try.prog 60 #[.pointer (some ⟨D.d, 0, none⟩), .int .i64 n, .agg (bvs c).toArray] w fun r w' => r = .returned (.iface 91 (.agg #[.int .i64 n, .iface 89 (.int .i64 16)])) ∧ Mv w D w' D := by
  have hlen : (bvs (D.bl n)).length = 256 := by rw [bvs_len]; exact (h.bln n hn).1
  have hl2 := (h.bln n hn).1
  have hgr := Gr.at_alloc w (.cells (bvs c).toArray 93)
  have hD := h.gr hgr
  have heq := fun W : World => eql93 W c (D.bl n) hcl hl2
  rw [decide_eq_false hc] at heq
  have h4 := hD.c 4 rfl
  have hr1 : (w.alloc (.cells (bvs c).toArray 93)).rangeAt w.heap.size 0 (bvs c) := fun j v hv => by
    rw [cell_of_row _ _ _ _ _ _ (heap_alloc_new w _), Nat.zero_add, List.getElem?_toArray]; exact hv
  have hr2 := hD.bls n hn
  have hlc : (bvs c).length = 256 := by rw [bvs_len]; exact hcl
  have hld1 := ldv93 ((World.rangeAt_drew _ _ _ _).2 hr1) hlc
  have hld2 := ldv93 ((World.rangeAt_drew _ _ _ _).2 hr2) hlen
  have HH := Lib.hid h
  have HGR := Lib.hid hgr
  have h5 := hD.c 5 rfl
  have h6 : (w.alloc (.cells (bvs c).toArray 93)).cell? ⟨D.hb, n, none⟩ = some (.bool (D.hu n)) := hD.hus n hn
  rw [hh] at h6
  clear h hD hc hl2 hlen hlc hgr hr1 hr2 hh hcl
  generalize (bvs c).toArray = c1 at *
  generalize (bvs (D.bl n)).toArray = c2 at *
  have b1 : (0 : Int) ≤ (n : Int) := by omega
  have b2 : (n : Int) < (D.k : Int) := by omega
  go_enter Try.func60, Try.ntmps60
  go_wp2_with fail
  generalize w.alloc (.cells c1 93) = W at *
  generalize w.heap.size = x at *
  go_region_law (fail)
  all_goals (
    go_wp2_with fail
    go_ret
    exact ⟨rfl, Mv.gr HH.out (Below.drew HGR.out)⟩)
set_option maxRecDepth 100000 in
set_option maxHeartbeats 1000000 in
theorem become_ok (D : Dk) (n : Nat) (w : World) (h : Dsk w D) (hn : n < D.k) (c : List Nat) (hcl : c.length = 256) (hsm : Small c) (hc : c ≠ D.bl n) (hh : D.hu n = false) :
    Calls Try.prog 60 #[.pointer (some ⟨D.d, 0, none⟩), .int .i64 n, .agg (bvs c).toArray] w fun r w' => r = .returned .nilIface ∧ Mv w D w' { D with bl := upd D.bl n c, hu := upd D.hu n true } := by
  have hlen : (bvs (D.bl n)).length = 256 := by rw [bvs_len]; exact (h.bln n hn).1
  have hl2 := (h.bln n hn).1
  have hgr := Gr.at_alloc w (.cells (bvs c).toArray 93)
  have hD := h.gr hgr
  have heq := fun W : World => eql93 W c (D.bl n) hcl hl2
  rw [decide_eq_false hc] at heq
  have h4 := hD.c 4 rfl
  have hr1 : (w.alloc (.cells (bvs c).toArray 93)).rangeAt w.heap.size 0 (bvs c) := fun j v hv => by
    rw [cell_of_row _ _ _ _ _ _ (heap_alloc_new w _), Nat.zero_add, List.getElem?_toArray]; exact hv
  have hr2 := hD.bls n hn
  have hlc : (bvs c).length = 256 := by rw [bvs_len]; exact hcl
  have hld1 := ldv93 ((World.rangeAt_drew _ _ _ _).2 hr1) hlc
  have hld2 := ldv93 ((World.rangeAt_drew _ _ _ _).2 hr2) hlen
  have HH := Lib.hid h
  have HGR := Lib.hid hgr
  have h5 := hD.c 5 rfl
  have h6 : (w.alloc (.cells (bvs c).toArray 93)).cell? ⟨D.hb, n, none⟩ = some (.bool (D.hu n)) := hD.hus n hn
  rw [hh] at h6
  have hdd : Dsk (w.alloc (.cells (bvs c).toArray 93)).drew.drew D := (hD.gr (Gr.drew _)).gr (Gr.drew _)
  have hst : stv 93 (.pointer (some ⟨D.bb, n * 256, none⟩)) (.agg (bvs c).toArray) (w.alloc (.cells (bvs c).toArray 93)).drew.drew = .ok () ((w.alloc (.cells (bvs c).toArray 93)).drew.drew.setCells D.bb (n * 256) (bvs c)) :=
    stv93 (fun j hj => by
      have := hdd.blT (n * 256 + j) (by have : (n + 1) * 256 ≤ D.k * 256 := Nat.mul_le_mul_right _ hn; omega)
      rwa [Nat.zero_add] at this) (by rw [List.size_toArray]; exact hlc) (all_oneCell_toArray (bvs_one _))
  have hmv := Mv.bytes hdd hn (show c.length ≤ 256 by omega) hsm
  have hov : over c (D.bl n) = c := by unfold over; rw [List.drop_of_length_le (by omega), List.append_nil]
  rw [hov] at hmv
  have hmv2 : Mv w D ((w.alloc (.cells (bvs c).toArray 93)).drew.drew.setCells D.bb (n * 256) (bvs c)) { D with bl := upd D.bl n c } := (Mv.gr h (Below.drew (Below.drew hgr))).trans hmv
  have hld3 := ldv93 ((World.rangeAt_drew _ _ _ _).2 ((World.rangeAt_drew _ _ _ _).2 hr1)) hlc
  have g1 : ((w.alloc (.cells (bvs c).toArray 93)).drew.drew.setCells D.bb (n * 256) (bvs c)).cell? ⟨D.hb, n, none⟩ = some (.bool (D.hu n)) := hmv2.2.1.hus n hn
  rw [hh] at g1
  have g2 : ((w.alloc (.cells (bvs c).toArray 93)).drew.drew.setCells D.bb (n * 256) (bvs c)).frozen? ⟨D.hb, n, none⟩ = false := by
    have := (hmv2.2.1.huT n hn).2
    rwa [Nat.zero_add] at this
  have hfin := hmv2.trans (Mv.hurt hmv2.2.1 hn true)
  have HFIN := Lib.hid hfin
  generalize (w.alloc (.cells (bvs c).toArray 93)).drew.drew.setCells D.bb (n * 256) (bvs c) = W5 at *
  clear hdd hmv hov hmv2 hfin hsm
  clear h hD hc hl2 hlen hlc hgr hr1 hr2 hh hcl
  generalize (bvs c).toArray = c1 at *
  generalize (bvs (D.bl n)).toArray = c2 at *
  have b1 : (0 : Int) ≤ (n : Int) := by omega
  have b2 : (n : Int) < (D.k : Int) := by omega
  go_enter Try.func60, Try.ntmps60
  go_wp2_with fail
  generalize w.alloc (.cells c1 93) = W at *
  generalize w.heap.size = x at *
  go_region_law (fail)
  all_goals (
    go_wp2_with fail
    go_region_law (fail)
    all_goals (
      go_wp2_with fail
      go_ret
      exact ⟨rfl, HFIN.out⟩))
end Go.Proofs.Ytkdphgcbecldbaa
