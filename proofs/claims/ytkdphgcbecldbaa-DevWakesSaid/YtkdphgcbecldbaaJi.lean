/- Texts of the proof, one behind the other: DevQ, DevR, DevS, MixG, DevT. -/
import Derived.Test.YtkdphgcbecldbaaJh
import Derived.ChangeKeysEq
import Derived.Deep.RegionLaw
import Derived.Test.YtkdphgcbecldbaaJd
import Derived.Test.YtkdphgcbecldbaaJc
import Derived.StillTailTactics
/- Two blocks: are they one? -/
namespace Go.Proofs.Ytkdphgcbecldbaa
open Go.RowKit
theorem cellsOf5 : Try.prog.cellsOf 5 = 1 := by kernel_rfl
theorem part5 (w : World) (l : List Nat) (i : Nat) (hi : i < l.length) : (Go.part 5 (bvs l).toArray i).run Try.prog w = .ok (.int .u8 ((l.getD i 0 : Nat) : Int)) w := by
  have hagg : (isAgg 5).run Try.prog w = .ok false w := by
    unfold isAgg
    rw [Sem.run_bind, run_underlying Try.underlying5 w]
    rfl
  unfold Go.part
  rw [Sem.run_bind, hagg]
  have hc : (bvs l).toArray[i]? = some (.int .u8 ((l.getD i 0 : Nat) : Int)) := by
    rw [List.getElem?_toArray]
    have hl : i < (bvs l).length := by rw [bvs_len]; exact hi
    rw [List.getElem?_eq_getElem hl]
    exact congrArg some (bvs_at (List.getElem?_eq_getElem hl)).2
  simp only [Result.andThen_ok, hc]
  rfl
theorem eq_items (w : World) (d : Nat) (a b : List Nat) (ha : a.length = 256) (hb : b.length = 256) : ∀ is : List Nat, (∀ i, i ∈ is → i < 256) →
    (Op.eqItems (d + 1) 5 (Try.prog.cellsOf 5) (bvs a).toArray (bvs b).toArray is).run Try.prog w = .ok (is.all fun i => a.getD i 0 == b.getD i 0) w
  | [], _ => by simp [Op.eqItems]
  | i :: is, h => by
    have hi : i < 256 := h i (List.mem_cons_self ..)
    have e1 := part5 w a i (by omega)
    have e2 := part5 w b i (by omega)
    have e3 : (Op.equalIn (d + 1) 5 (.int .u8 ((a.getD i 0 : Nat) : Int)) (.int .u8 ((b.getD i 0 : Nat) : Int))).run Try.prog w = .ok (((a.getD i 0 : Nat) : Int) == ((b.getD i 0 : Nat) : Int)) w := run_equalIn_int (P := Try.prog) w d 5 .u8 .u8 _ _ Try.underlying5
    have ih := eq_items w d a b ha hb is (fun j hj => h j (List.mem_cons_of_mem _ hj))
    simp only [cellsOf5] at ih ⊢
    simp only [Op.eqItems, Sem.run_bind, Nat.mul_one, e1, e2, e3, Result.andThen_ok]
    rw [List.all_cons]
    by_cases hx : a.getD i 0 = b.getD i 0
    · rw [hx]
      simpa using ih
    · have hx1 : (a.getD i 0 == b.getD i 0) = false := by simpa using hx
      have hx2 : (((a.getD i 0 : Nat) : Int) == ((b.getD i 0 : Nat) : Int)) = false := by
        rw [beq_eq_false_iff_ne]
        intro h
        exact hx (by omega)
      rw [hx1, hx2]
      rfl
theorem all_getD {a b : List Nat} (ha : a.length = 256) (hb : b.length = 256) : ((List.range 256).all fun i => a.getD i 0 == b.getD i 0) = decide (a = b) := by
  by_cases h : a = b
  · subst h
    rw [decide_eq_true rfl, List.all_eq_true]
    intro i _
    exact beq_self_eq_true _
  · rw [decide_eq_false h, List.all_eq_false]
    refine Classical.byContradiction fun hn => h ?_
    apply List.ext_getElem (by omega)
    intro i h1 h2
    refine Classical.byContradiction fun hne => hn ⟨i, List.mem_range.2 (by omega), ?_⟩
    intro he
    rw [beq_iff_eq, List.getD_eq_getElem?_getD, List.getD_eq_getElem?_getD, List.getElem?_eq_getElem h1, List.getElem?_eq_getElem h2] at he
    exact hne he
theorem eql93 (w : World) (a b : List Nat) (ha : a.length = 256) (hb : b.length = 256) : (Op.equalIn 10000 93 (.agg (bvs a).toArray) (.agg (bvs b).toArray)).run Try.prog w = .ok (decide (a = b)) w := by
  obtain ⟨i5, hi, hz, hs, hby⟩ := info_parts info5
  rw [show 10000 = 9999 + 1 from rfl, run_equalIn_array (P := Try.prog) w 9999 _ _ Try.underlying93 hi]
  rw [show 9999 = 9998 + 1 from rfl, eq_items w 9998 a b ha hb _ (fun i hi => List.mem_range.1 hi), all_getD ha hb]
end Go.Proofs.Ytkdphgcbecldbaa
/- The disk: become. -/
namespace Go.Proofs.Ytkdphgcbecldbaa
open Go.RowKit
attribute [local go_sem ↓] wp_ld93 wp_st93
set_option maxRecDepth 100000 in
set_option maxHeartbeats 1000000 in
theorem become_same (D : Dk) (n : Nat) (w : World) (h : Dsk w D) (hn : n < D.k) (c : List Nat) (hc : c = D.bl n) :
    Calls Try.prog 60 #[.pointer (some ⟨D.d, 0, none⟩), .int .i64 n, .agg (bvs c).toArray] w fun r w' => r = .returned (.iface 91 (.agg #[.int .i64 n, .iface 89 (.int .i64 2)])) ∧ Mv w D w' D := by
  have hlen : (bvs (D.bl n)).length = 256 := by rw [bvs_len]; exact (h.bln n hn).1
  have hl2 := (h.bln n hn).1
  have hgr := Gr.at_alloc w (.cells (bvs c).toArray 93)
  have hD := h.gr hgr
  have heq := fun W : World => eql93 W c (D.bl n) (by rw [hc]; exact hl2) hl2
  rw [decide_eq_true hc] at heq
  have h4 := hD.c 4 rfl
  have hr1 : (w.alloc (.cells (bvs c).toArray 93)).rangeAt w.heap.size 0 (bvs c) := fun j v hv => by
    rw [cell_of_row _ _ _ _ _ _ (heap_alloc_new w _), Nat.zero_add, List.getElem?_toArray]; exact hv
  have hr2 := hD.bls n hn
  have hlc : (bvs c).length = 256 := by rw [hc]; exact hlen
  have hld1 := ldv93 ((World.rangeAt_drew _ _ _ _).2 hr1) hlc
  have hld2 := ldv93 ((World.rangeAt_drew _ _ _ _).2 hr2) hlen
  have HH := Lib.hid h
  have HGR := Lib.hid hgr
  clear h hD hc hl2 hlen hlc hgr hr1 hr2
  generalize (bvs c).toArray = c1 at *
  generalize (bvs (D.bl n)).toArray = c2 at *
  have b1 : (0 : Int) ≤ (n : Int) := by omega
  have b2 : (n : Int) < (D.k : Int) := by omega
  go_enter Try.func60, Try.ntmps60
  go_wp2_with fail
  generalize w.alloc (.cells c1 93) = W at *
  generalize w.heap.size = x at *
  go_region_law (fail)
  all_goals (
    go_wp2_with fail
    go_ret
    exact ⟨rfl, Mv.gr HH.out (Below.drew HGR.out)⟩)
set_option maxRecDepth 100000 in
set_option maxHeartbeats 1000000 in
theorem become_hurt (D : Dk) (n : Nat) (w : World) (h : Dsk w D) (hn : n < D.k) (c : List Nat) (hcl : c.length = 256) (hc : c ≠ D.bl n) (hh : D.hu n = true) :
    Calls Try.prog 60 #[.pointer (some ⟨D.d, 0, none⟩), .int .i64 n, .agg (bvs c).toArray] w fun r w' => r = .returned (.iface 91 (.agg #[.int .i64 n, .iface 89 (.int .i64 16)])) ∧ Mv w D w' D := by
  have hlen : (bvs (D.bl n)).length = 256 := by rw [bvs_len]; exact (h.bln n hn).1
  have hl2 := (h.bln n hn).1
  have hgr := Gr.at_alloc w (.cells (bvs c).toArray 93)
  have hD := h.gr hgr
  have heq := fun W : World => eql93 W c (D.bl n) hcl hl2
  rw [decide_eq_false hc] at heq
  have h4 := hD.c 4 rfl
  have hr1 : (w.alloc (.cells (bvs c).toArray 93)).rangeAt w.heap.size 0 (bvs c) := fun j v hv => by
    rw [cell_of_row _ _ _ _ _ _ (heap_alloc_new w _), Nat.zero_add, List.getElem?_toArray]; exact hv
  have hr2 := hD.bls n hn
  have hlc : (bvs c).length = 256 := by rw [bvs_len]; exact hcl
  have hld1 := ldv93 ((World.rangeAt_drew _ _ _ _).2 hr1) hlc
  have hld2 := ldv93 ((World.rangeAt_drew _ _ _ _).2 hr2) hlen
  have HH := Lib.hid h
  have HGR := Lib.hid hgr
  have h5 := hD.c 5 rfl
  have h6 : (w.alloc (.cells (bvs c).toArray 93)).cell? ⟨D.hb, n, none⟩ = some (.bool (D.hu n)) := hD.hus n hn
  rw [hh] at h6
  clear h hD hc hl2 hlen hlc hgr hr1 hr2 hh hcl
  generalize (bvs c).toArray = c1 at *
  generalize (bvs (D.bl n)).toArray = c2 at *
  have b1 : (0 : Int) ≤ (n : Int) := by omega
  have b2 : (n : Int) < (D.k : Int) := by omega
  go_enter Try.func60, Try.ntmps60
  go_wp2_with fail
  generalize w.alloc (.cells c1 93) = W at *
  generalize w.heap.size = x at *
  go_region_law (fail)
  all_goals (
    go_wp2_with fail
    go_ret
    exact ⟨rfl, Mv.gr HH.out (Below.drew HGR.out)⟩)
set_option maxRecDepth 100000 in
set_option maxHeartbeats 1000000 in
theorem become_ok (D : Dk) (n : Nat) (w : World) (h : Dsk w D) (hn : n < D.k) (c : List Nat) (hcl : c.length = 256) (hsm : Small c) (hc : c ≠ D.bl n) (hh : D.hu n = false) :
    Calls Try.prog 60 #[.pointer (some ⟨D.d, 0, none⟩), .int .i64 n, .agg (bvs c).toArray] w fun r w' => r = .returned .nilIface ∧ Mv w D w' { D with bl := upd D.bl n c, hu := upd D.hu n true } := by
  have hlen : (bvs (D.bl n)).length = 256 := by rw [bvs_len]; exact (h.bln n hn).1
  have hl2 := (h.bln n hn).1
  have hgr := Gr.at_alloc w (.cells (bvs c).toArray 93)
  have hD := h.gr hgr
  have heq := fun W : World => eql93 W c (D.bl n) hcl hl2
  rw [decide_eq_false hc] at heq
  have h4 := hD.c 4 rfl
  have hr1 : (w.alloc (.cells (bvs c).toArray 93)).rangeAt w.heap.size 0 (bvs c) := fun j v hv => by
    rw [cell_of_row _ _ _ _ _ _ (heap_alloc_new w _), Nat.zero_add, List.getElem?_toArray]; exact hv
  have hr2 := hD.bls n hn
  have hlc : (bvs c).length = 256 := by rw [bvs_len]; exact hcl
  have hld1 := ldv93 ((World.rangeAt_drew _ _ _ _).2 hr1) hlc
  have hld2 := ldv93 ((World.rangeAt_drew _ _ _ _).2 hr2) hlen
  have HH := Lib.hid h
  have HGR := Lib.hid hgr
  have h5 := hD.c 5 rfl
  have h6 : (w.alloc (.cells (bvs c).toArray 93)).cell? ⟨D.hb, n, none⟩ = some (.bool (D.hu n)) := hD.hus n hn
  rw [hh] at h6
  have hdd : Dsk (w.alloc (.cells (bvs c).toArray 93)).drew.drew D := (hD.gr (Gr.drew _)).gr (Gr.drew _)
  have hst : stv 93 (.pointer (some ⟨D.bb, n * 256, none⟩)) (.agg (bvs c).toArray) (w.alloc (.cells (bvs c).toArray 93)).drew.drew = .ok () ((w.alloc (.cells (bvs c).toArray 93)).drew.drew.setCells D.bb (n * 256) (bvs c)) :=
    stv93 (fun j hj => by
      have := hdd.blT (n * 256 + j) (by have : (n + 1) * 256 ≤ D.k * 256 := Nat.mul_le_mul_right _ hn; omega)
      rwa [Nat.zero_add] at this) (by rw [List.size_toArray]; exact hlc) (all_oneCell_toArray (bvs_one _))
  have hmv := Mv.bytes hdd hn (show c.length ≤ 256 by omega) hsm
  have hov : over c (D.bl n) = c := by unfold over; rw [List.drop_of_length_le (by omega), List.append_nil]
  rw [hov] at hmv
  have hmv2 : Mv w D ((w.alloc (.cells (bvs c).toArray 93)).drew.drew.setCells D.bb (n * 256) (bvs c)) { D with bl := upd D.bl n c } := (Mv.gr h (Below.drew (Below.drew hgr))).trans hmv
  have hld3 := ldv93 ((World.rangeAt_drew _ _ _ _).2 ((World.rangeAt_drew _ _ _ _).2 hr1)) hlc
  have g1 : ((w.alloc (.cells (bvs c).toArray 93)).drew.drew.setCells D.bb (n * 256) (bvs c)).cell? ⟨D.hb, n, none⟩ = some (.bool (D.hu n)) := hmv2.2.1.hus n hn
  rw [hh] at g1
  have g2 : ((w.alloc (.cells (bvs c).toArray 93)).drew.drew.setCells D.bb (n * 256) (bvs c)).frozen? ⟨D.hb, n, none⟩ = false := by
    have := (hmv2.2.1.huT n hn).2
    rwa [Nat.zero_add] at this
  have hfin := hmv2.trans (Mv.hurt hmv2.2.1 hn true)
  have HFIN := Lib.hid hfin
  generalize (w.alloc (.cells (bvs c).toArray 93)).drew.drew.setCells D.bb (n * 256) (bvs c) = W5 at *
  clear hdd hmv hov hmv2 hfin hsm
  clear h hD hc hl2 hlen hlc hgr hr1 hr2 hh hcl
  generalize (bvs c).toArray = c1 at *
  generalize (bvs (D.bl n)).toArray = c2 at *
  have b1 : (0 : Int) ≤ (n : Int) := by omega
  have b2 : (n : Int) < (D.k : Int) := by omega
  go_enter Try.func60, Try.ntmps60
  go_wp2_with fail
  generalize w.alloc (.cells c1 93) = W at *
  generalize w.heap.size = x at *
  go_region_law (fail)
  all_goals (
    go_wp2_with fail
    go_region_law (fail)
    all_goals (
      go_wp2_with fail
      go_ret
      exact ⟨rfl, HFIN.out⟩))
end Go.Proofs.Ytkdphgcbecldbaa
/- The disk: Wipe. -/
namespace Go.Proofs.Ytkdphgcbecldbaa
open Go.RowKit
theorem zb93 : Try.zeroCells93 = (bvs (Z 256)).toArray := by
  rw [z93, bvs_Z]
  unfold Zb
  apply Array.ext'
  rw [Array.toList_replicate]
set_option maxRecDepth 100000 in
set_option maxHeartbeats 1000000 in
theorem wipe_out (D : Dk) (n : Int) (w : World) (h : Dsk w D) (hn : n < 0 ∨ (D.k : Int) ≤ n) :
    Calls Try.prog 36 #[.pointer (some ⟨D.d, 0, none⟩), .int .i64 n] w fun r w' => r = .returned (.int .i64 2) ∧ Mv w D w' D := by
  have HH := Lib.hid h
  have HN := Lib.hid hn
  clear h hn
  go_enter Try.func36, Try.ntmps36
  go_wp2_with fail
  refine (there_no D n _ HH.out HN.out).mono ?_
  rintro e w1 ⟨rfl, rfl⟩
  go_wp2_with fail
  refine (told_at n 2 _ (by omega)).mono ?_
  rintro e w2 ⟨rfl, hg⟩
  go_wp2_with fail
  go_ret
  exact ⟨rfl, Mv.gr HH.out hg⟩
set_option maxRecDepth 100000 in
set_option maxHeartbeats 1000000 in
theorem wipe_same (D : Dk) (n : Nat) (w : World) (h : Dsk w D) (hn : n < D.k) (hz : Z 256 = D.bl n) :
    Calls Try.prog 36 #[.pointer (some ⟨D.d, 0, none⟩), .int .i64 n] w fun r w' => r = .returned (.int .i64 2) ∧ Mv w D w' D := by
  have HB := Lib.hid (become_same D n w h hn (Z 256) hz)
  rw [← zb93] at HB
  have HH := Lib.hid h
  clear h hz
  go_enter Try.func36, Try.ntmps36
  go_wp2_with fail
  refine (there_ok D n _ HH.out (by omega) (by omega)).mono ?_
  rintro e w1 ⟨rfl, rfl⟩
  go_wp2_with fail
  refine HB.out.mono ?_
  rintro e w1 ⟨rfl, hm⟩
  have HM := Lib.hid hm
  clear hm
  go_wp2_with fail
  refine (told_at n 2 _ (by omega)).mono ?_
  rintro e w2 ⟨rfl, hg⟩
  go_wp2_with fail
  go_ret
  exact ⟨rfl, HM.out.trans (Mv.gr HM.out.2.1 hg)⟩
set_option maxRecDepth 100000 in
set_option maxHeartbeats 1000000 in
theorem wipe_hurt (D : Dk) (n : Nat) (w : World) (h : Dsk w D) (hn : n < D.k) (hz : Z 256 ≠ D.bl n) (hh : D.hu n = true) :
    Calls Try.prog 36 #[.pointer (some ⟨D.d, 0, none⟩), .int .i64 n] w fun r w' => r = .returned (.int .i64 16) ∧ Mv w D w' D := by
  have HB := Lib.hid (become_hurt D n w h hn (Z 256) (Z_len 256) hz hh)
  rw [← zb93] at HB
  have HH := Lib.hid h
  clear h hz hh
  go_enter Try.func36, Try.ntmps36
  go_wp2_with fail
  refine (there_ok D n _ HH.out (by omega) (by omega)).mono ?_
  rintro e w1 ⟨rfl, rfl⟩
  go_wp2_with fail
  refine HB.out.mono ?_
  rintro e w1 ⟨rfl, hm⟩
  have HM := Lib.hid hm
  clear hm
  go_wp2_with fail
  refine (told_at n 16 _ (by omega)).mono ?_
  rintro e w2 ⟨rfl, hg⟩
  go_wp2_with fail
  go_ret
  exact ⟨rfl, HM.out.trans (Mv.gr HM.out.2.1 hg)⟩
set_option maxRecDepth 100000 in
set_option maxHeartbeats 1000000 in
theorem wipe_ok (D : Dk) (n : Nat) (w : World) (h : Dsk w D) (hn : n < D.k) (hz : Z 256 ≠ D.bl n) (hh : D.hu n = false) :
    Calls Try.prog 36 #[.pointer (some ⟨D.d, 0, none⟩), .int .i64 n] w fun r w' => r = .returned (.int .i64 0) ∧ Mv w D w' { D with bl := upd D.bl n (Z 256), hu := upd D.hu n true } := by
  have HB := Lib.hid (become_ok D n w h hn (Z 256) (Z_len 256) (small_zero 256) hz hh)
  rw [← zb93] at HB
  have HH := Lib.hid h
  clear h hz hh
  go_enter Try.func36, Try.ntmps36
  go_wp2_with fail
  refine (there_ok D n _ HH.out (by omega) (by omega)).mono ?_
  rintro e w1 ⟨rfl, rfl⟩
  go_wp2_with fail
  refine HB.out.mono ?_
  rintro e w1 ⟨rfl, hm⟩
  have HM := Lib.hid hm
  clear hm
  go_wp2_with fail
  refine (told_ok _).mono ?_
  rintro e w2 ⟨rfl, hg⟩
  go_wp2_with fail
  go_ret
  exact ⟨rfl, HM.out.trans (Mv.gr HM.out.2.1 hg)⟩
end Go.Proofs.Ytkdphgcbecldbaa
/- MixRuns: rows that differ within a run of 32 bits have unlike sums; any bytes, any place, any turn. -/
namespace Go.Proofs.Ytkdphgcbecldbaa
open Go.RowKit MixM

theorem info5' : (Try.prog.info? 5).map (fun i => (i.zero, i.size, i.bytes)) = some (some (.int .u8 0), 1, 1) := by kernel_rfl
theorem bit_walk (t k : Nat) (ht : t < 4294967296) : bits .and .u32 ((t : Int) / 2 ^ k) 1 = ((t / 2 ^ k % 2 : Nat) : Int) := by
  have e : (t : Int) / 2 ^ k = ((t / 2 ^ k : Nat) : Int) := by simp
  rw [e, and1 _ (Nat.lt_of_le_of_lt (Nat.div_le_self _ _) ht)]
theorem Gr.drew' {a b : World} (k : Gr a b) : Gr a b.drew := Below.drew k
theorem bt_lt (bt R : Nat) (hb : bt < 2) (hR : R < 8) : bt * 2 ^ R < 2 ^ 8 := by
  have h : 2 ^ R ≤ 2 ^ 7 := Nat.pow_le_pow_right (by decide) (by omega)
  rcases (by omega : bt = 0 ∨ bt = 1) with e | e
  · subst e; omega
  · subst e; omega
theorem byte_walk (x bt R : Nat) (hx : x < 256) (hb : bt < 2) (hR : R < 8) : bits .xor .u8 (x : Int) (IntKind.u8.wrap ((bt : Int) * 2 ^ R)) = ((x ^^^ bt * 2 ^ R : Nat) : Int) := by
  have h := bt_lt bt R hb hR
  have e : (bt : Int) * 2 ^ R = ((bt * 2 ^ R : Nat) : Int) := by simp
  rw [e, IntWalk.u8_in _ (by omega), u8_xor_nat _ _ hx (by omega)]
theorem run_step (t k f : Nat) : t % 2 ^ k * 2 ^ f ^^^ t / 2 ^ k % 2 * 2 ^ ((f + k) % 8) * 256 ^ ((f + k) / 8) = t % 2 ^ (k + 1) * 2 ^ f := by
  have e1 : t / 2 ^ k % 2 * 2 ^ ((f + k) % 8) * 256 ^ ((f + k) / 8) = t / 2 ^ k % 2 * 2 ^ k * 2 ^ f := by
    rw [show (256 : Nat) = 2 ^ 8 from rfl, ← Nat.pow_mul, Nat.mul_assoc, ← Nat.pow_add, Nat.mul_assoc, ← Nat.pow_add]
    congr 2
    omega
  have e2 : t % 2 ^ (k + 1) = t / 2 ^ k % 2 * 2 ^ k ^^^ t % 2 ^ k := by
    conv => lhs; rw [split (t % 2 ^ (k + 1)) k]
    congr 1
    · congr 1
      rw [Nat.pow_succ, Nat.mod_mul_right_div_self]
    · rw [Nat.mod_mod_of_dvd]
      exact ⟨2, by rw [Nat.pow_succ]⟩
  rw [e1, e2]
  have := Nat.shiftLeft_xor_distrib (a := t / 2 ^ k % 2 * 2 ^ k) (b := t % 2 ^ k) (i := f)
  simp only [Nat.shiftLeft_eq] at this
  rw [this, Nat.xor_comm]
set_option maxRecDepth 100000 in
set_option maxHeartbeats 1000000 in
theorem mixruns_any (A : Option Addr) (n c : Nat) (l : List Nat) (m : Int) (t : Nat) (w : World) (h : Bs w w.heap.size ⟨A, n, c⟩ l) (ht : t < 4294967296) :
    Calls Try.prog 5 #[.slice A n c, .int .i64 m, .int .u32 t] w fun e w' => e = .returned (.bool true) ∧ Gr w w' := by
  obtain ⟨i5, hi, hz, hs, hby⟩ := info_parts info5'
  have hnc : n ≤ c := h.2.2.1
  have hcm : c ≤ 9223372036854775807 := h.2.2.2.1
  have HS1 : Hid (∀ W, Gr w W → Bs W w.heap.size ⟨A, n, c⟩ l) := fun W hW => bs_gr h hW (Nat.le_refl _)
  clear h
  by_cases hbig : 20000 < n
  · go_enter Try.func5, Try.ntmps5
    go_wp2_with fail
    refine (awake1 _).mono ?_
    rintro e w1 ⟨rfl, hg1⟩
    go_wp2_with fail
    go_ret
    exact ⟨rfl, hg1⟩
  · by_cases hn0 : n = 0
    · subst hn0
      go_enter Try.func5, Try.ntmps5
      go_wp2_with fail
      refine (awake1 _).mono ?_
      rintro e w1 ⟨rfl, hg1⟩
      go_wp2_with fail
      go_ret
      exact ⟨rfl, hg1⟩
    · have hne : ((n : Int) == 0) = false := by simp; omega
      go_enter Try.func5, Try.ntmps5
      go_wp2_with fail
      refine (awake1 _).mono ?_
      rintro e w1 ⟨rfl, hg1⟩
      obtain ⟨b, o, hA, hb, hx⟩ := (HS1.out w1 hg1).at_ (show 0 < n by omega)
      simp only at hA hx
      subst hA
      have hcells : Hid (∀ j u, (bvs l)[j]? = some u → (w1.alloc (.cells #[] 5)).cell? ((⟨b, o, none⟩ : Addr).add j) = some u) := bs_cells ((HS1.out w1 hg1).below (Gr.at_alloc w1 _) (gr_size hg1)) _ rfl
      have hlen : Hid ((bvs l).length = n * 1) := by
        show _ = _
        rw [bvs, List.length_map, Nat.mul_one]; exact (HS1.out w1 hg1).1.symm
      have hown0 : (w1.alloc (.cells #[] 5)).ownsRow w1.heap.size 5 1 (.slice (some ⟨w1.heap.size, 0, none⟩) 0 0) 0 [] := World.ownsRow_made w1 #[] 0 (Nat.le_refl _) (Nat.zero_le _) rfl
      clear hx
      go_wp2_with (at_builtin; refine wpList_append_own _ rfl (.tmp 21) (.tmp 22) 24 rfl w1.heap.size 5 i5 (.int .u8 0) 1 1 Try.underlying24 hi hz hs hby rfl (by decide) (.slice (some ⟨w1.heap.size, 0, none⟩) 0 0) 0 [] rfl hown0 ⟨b, o, none⟩ n c (bvs l) rfl hlen.out hcells.out (bvs_one l) ?d3 ?d4 ?d5 ?_)
      case d3 => unfold maxLen; omega
      case d4 => omega
      case d5 => rw [World.size_alloc]; omega
      intro v2 w2 hown2 hgr2 hv2
      have hg2 : Gr w w2 := by
        have h1 := hg1.alloc (.cells #[] 5)
        refine Below.grown h1 hgr2 (gr_size h1) (fun k hk => ?_)
        have : w1.heap.size = k := by simpa [Value.ownBlock] using hk
        rw [← this]; exact gr_size hg1
      obtain ⟨g, cap, hv, hgB, hncap, hcm2, hgw⟩ : ∃ g cap, v2 = .slice (some ⟨g, 0, none⟩) n cap ∧ w1.heap.size ≤ g ∧ n ≤ cap ∧ cap ≤ 9223372036854775807 ∧ g < w2.heap.size := by
        rcases hown2.2 with ⟨_, h0⟩ | ⟨g, cap, cur, hv, hgB, hh, h1, h2, _⟩
        · exact absurd h0 hn0
        · refine ⟨g, cap, hv, hgB, h1, by unfold maxLen at h2; exact h2, ?_⟩
          rcases Nat.lt_or_ge g w2.heap.size with hlt | hge
          · exact hlt
          · rw [Array.getElem?_eq_none hge] at hh; cases hh
      subst hv
      have hgg : w.heap.size ≤ g := Nat.le_trans (gr_size hg1) hgB
      clear hown0 hcells hlen hgr2 hv2 hgB
      have hp1 : 0 ≤ pick m (8 * (n : Int)) ∧ pick m (8 * (n : Int)) < 8 * (n : Int) := by
        unfold pick
        rw [if_neg (by omega)]
        exact ⟨Int.emod_nonneg _ (by omega), Int.emod_lt_of_pos _ (by omega)⟩
      go_wp2_with fail
      refine (pick_any m (8 * (n : Int)) _ (by omega)).mono ?_
      rintro e w' ⟨rfl, rfl⟩
      obtain ⟨f, hf⟩ := Int.eq_ofNat_of_zero_le hp1.1
      rw [hf] at hp1 ⊢
      have hfn : f < 8 * n := by omega
      clear hf hp1
      go_wp2_with fail
      go_loopw [9] (fun i wr => ∃ (k : Nat) (cl : List Nat), k ≤ 32 ∧ f + k ≤ 8 * n ∧ i = .int .i64 k ∧ Hid (cl.length = n) ∧ Small cl ∧ Hid (num cl = num l ^^^ t % 2 ^ k * 2 ^ f) ∧ wr.ownsRow w1.heap.size 5 1 (.slice (some ⟨g, 0, none⟩) n cap) n (bvs cl) ∧ Gr w wr ∧ g < wr.heap.size) (fun i _ => 32 - (intOf i).toNat)
      case atStart => exact ⟨0, l, by omega, by omega, rfl, (HS1.out w1 hg1).1.symm, (HS1.out w1 hg1).2.1, by show _ = _; simp [Nat.mod_one], hown2, hg2, hgw⟩
      case round =>
        obtain ⟨k, cl, hk, hfk, rfl, HCL, hsm, HN, hown, hg, hgr⟩ := hrel
        by_cases hk32 : k < 32 ∧ f + k < 8 * n
        · obtain ⟨hk1, hk2⟩ := hk32
          have hj : (f + k) / 8 < n := by omega
          have hjc : (f + k) / 8 < cl.length := by rw [HCL.out]; exact hj
          have hcell := hown.cellAt ((f + k) / 8) (by omega)
          have hfro := hown.frozenAt ((f + k) / 8)
          have hx : (bvs cl)[(f + k) / 8]? = some (.int .u8 ((cl[(f + k) / 8] : Nat) : Int)) := by simp [bvs, hjc]
          rw [hx] at hcell
          have hx8 : cl[(f + k) / 8] < 256 := hsm _ (List.getElem_mem hjc)
          generalize hxe : cl[(f + k) / 8] = x at hcell hx8
          have HX := Lib.hid hxe
          have HOWN := Lib.hid hown
          have e1 : IntKind.i64.wrap ((f : Int) + (k : Int)) = (f : Int) + (k : Int) := IntWalk.i64_in _ (by omega)
          have e2 : IntKind.i64.wrap (((f : Int) + (k : Int)).tdiv 8) = (((f + k) / 8 : Nat) : Int) := by
            rw [Int.tdiv_eq_ediv_of_nonneg (by omega), IntWalk.i64_in _ (by omega)]; omega
          have e3 : ((f : Int) + (k : Int)).tmod 8 = (((f + k) % 8 : Nat) : Int) := by
            rw [Int.tmod_eq_emod_of_nonneg (by omega)]; omega
          have e4 := bit_walk t k ht
          have hb1 : t / 2 ^ k % 2 < 2 := Nat.mod_lt _ (by decide)
          have hR8 : (f + k) % 8 < 8 := Nat.mod_lt _ (by decide)
          generalize hJ : (f + k) / 8 = J at *
          generalize hR : (f + k) % 8 = R at *
          generalize hbt : t / 2 ^ k % 2 = bt at *
          have e5 : IntKind.u8.wrap (bt : Int) = (bt : Int) := IntWalk.u8_in _ (by omega)
          have HJ := Lib.hid hJ
          have HR := Lib.hid hR
          have HBT := Lib.hid hbt
          clear hx hxe hown hJ hR hbt
          go_wp2_with fail
          go_still_tail 24, (by kernel_rfl)
          change wpList _ _ _ _ _ wr.drew
          have hown' : wr.drew.ownsRow w1.heap.size 5 1 (.slice (some ⟨g, 0, none⟩) n cap) n (bvs cl) := HOWN.out
          have hcell' : wr.drew.cell? ⟨g, J, none⟩ = some (.int .u8 ((x : Nat) : Int)) := hcell
          have hfro' : wr.drew.frozen? ⟨g, J, none⟩ = false := hfro
          have hg' : Gr w wr.drew := hg.drew'
          have hgr' : g < wr.drew.heap.size := hgr
          have HX2 := byte_walk x bt R hx8 hb1 hR8
          have hX8 : x ^^^ bt * 2 ^ R < 256 := Nat.xor_lt_two_pow (n := 8) hx8 (bt_lt bt R hb1 hR8)
          have HXE : Hid (∀ v : Nat, v = x ^^^ bt * 2 ^ R → num (cl.set J v) = num l ^^^ t % 2 ^ (k + 1) * 2 ^ f) := by
            intro v hv
            subst hv
            have e := num_set cl J (bt * 2 ^ R) hjc
            rw [HX.out] at e
            rw [e, HN.out, Nat.xor_assoc]
            congr 1
            rw [← HBT.out, ← HR.out, ← HJ.out]
            exact run_step t k f
          generalize x ^^^ bt * 2 ^ R = X at *
          generalize wr.drew = wd at *
          have HOWN' := Lib.hid hown'
          rw [HX2]
          clear hcell hfro HOWN hown' HX2
          go_wp2_with fail
          go_roundw
          case rel =>
            have hst := HOWN'.out.stored J (.int .u8 ((X : Nat) : Int))
            refine ⟨k + 1, cl.set J X, by omega, by omega, by go_num, by show _ = _; rw [List.length_set, HCL.out], ?_, HXE.out X rfl, ?_, ?_, ?_⟩
            · intro y hy
              rcases List.mem_or_eq_of_mem_set hy with h | h
              · exact hsm y h
              · rw [h]; exact hX8
            · have e : bvs (cl.set J X) = (bvs cl).set J (.int .u8 ((X : Nat) : Int)) := by simp [bvs, List.map_set]
              rw [e]; exact hst.1
            · exact Below.setCell hg' hgg _
            · have := hst.2.size; omega
          case measure => simp [intOf]; omega
        · have hend : Hid (k = 32 ∨ f + k = 8 * n) := by
            show _ ∨ _
            omega
          have hl : l.length = n := (HS1.out w1 hg1).1.symm
          have hsl : Small l := (HS1.out w1 hg1).2.1
          have hD : t % 2 ^ k = t % 2 ^ (8 * n - f) := by
            rcases hend.out with e | e
            · subst e
              rw [Nat.mod_eq_of_lt ht, Nat.mod_eq_of_lt]
              exact Nat.lt_of_lt_of_le ht (Nat.pow_le_pow_right (n := 2) (by decide) (show 32 ≤ 8 * n - f by omega))
            · rw [show 8 * n - f = k by omega]
          have hnum : num l ^^^ num cl = t % 2 ^ (8 * n - f) * 2 ^ f := by
            rw [HN.out, xor_same, hD]
          have hiff : sum l = sum cl ↔ t % 2 ^ (8 * n - f) = 0 := by
            rw [sum_eq_iff l cl (by rw [hl, HCL.out]), hnum, hl]
            exact run32 (8 * n) f t ht (by omega)
          have hiff2 : l = cl ↔ t % 2 ^ (8 * n - f) = 0 := by
            constructor
            · intro e
              rw [← e, Nat.xor_self] at hnum
              have := Nat.mul_eq_zero.1 hnum.symm
              rcases this with h | h
              · exact h
              · exact absurd h (Nat.ne_of_gt (Nat.two_pow_pos f))
            · intro e
              rw [e, Nat.zero_mul, xor_zero_iff] at hnum
              exact num_inj l cl (by rw [hl, HCL.out]) hsl hsm hnum
          have HBC : Hid (Bs wr wr.heap.size ⟨some ⟨g, 0, none⟩, n, cap⟩ cl) := by
            refine ⟨HCL.out.symm, hsm, hncap, hcm2, fun _ => ⟨g, 0, rfl, hgr, fun i hi => ?_⟩⟩
            simp only at hi
            rw [Nat.zero_add, hown.cellAt i (by omega)]
            have hic : i < cl.length := by rw [HCL.out]; exact hi
            simp [bvs, bv, hic, List.getD_eq_getElem?_getD]
          have HBL : Hid (Bs wr wr.heap.size ⟨some ⟨b, o, none⟩, n, c⟩ l) := (HS1.out wr hg).more (gr_size hg)
          by_cases e0 : l = cl
          · have e1 : sum cl = sum l := by rw [← e0]
            have hd : decide (l = cl) = true := decide_eq_true e0
            have E1 := Lib.hid e1
            have HD := Lib.hid hd
            clear e0 e1 hd hiff hiff2 hnum hD hl hsl HN hsm hown
            rcases (by have := hend.out; omega : 32 ≤ k ∨ (k < 32 ∧ 8 * n ≤ f + k)) with h32 | ⟨h32, h8⟩
            all_goals
              go_wp2_with fail
              refine (same_any _ _ n c cap wr.heap.size l cl _ HBL.out HBC.out).mono ?_
              rintro e w3 ⟨rfl, q, rfl⟩
              rw [HD.out]
              have hg3 : Gr w (wr.drewN q) := below_drewN hg q
              have hb1 : Bs (wr.drewN q) (wr.drewN q).heap.size ⟨some ⟨b, o, none⟩, n, c⟩ l := HBL.out
              have hb2 : Bs (wr.drewN q) (wr.drewN q).heap.size ⟨some ⟨g, 0, none⟩, n, cap⟩ cl := HBC.out
              generalize wr.drewN q = w4 at *
              have HB1 : Hid (∀ W, Gr w4 W → Bs W w4.heap.size ⟨some ⟨b, o, none⟩, n, c⟩ l) := fun W hW => bs_gr hb1 hW (Nat.le_refl _)
              have HB2 : Hid (∀ W, Gr w4 W → Bs W w4.heap.size ⟨some ⟨g, 0, none⟩, n, cap⟩ cl) := fun W hW => bs_gr hb2 hW (Nat.le_refl _)
              clear hb1 hb2
              go_wp2_with fail
              refine (sum_oneG _ (HB1.out _ (Gr.refl _)) (Nat.le_refl _) _).mono ?_
              rintro e w5 ⟨rfl, hg5⟩
              have hg5' : Gr w4 w5 := Gr.step hg5 (Gr.at_alloc _ _)
              clear hg5
              go_wp2_with fail
              refine (sum_oneG _ (HB2.out _ hg5') (gr_size hg5') _).mono ?_
              rintro e w6 ⟨rfl, hg6⟩
              have hg6' : Gr w4 w6 := Gr.step hg6 (hg5'.alloc _)
              clear hg6
              rw [E1.out]
              go_wp2_with fail
              refine (sum_oneG _ (HB1.out _ hg6') (gr_size hg6') _).mono ?_
              rintro e w7 ⟨rfl, hg7⟩
              have hg7' : Gr w4 w7 := Gr.step hg7 (hg6'.alloc _)
              clear hg7
              go_wp2_with fail
              refine (fits_yes _ _ _ cl (sum l) _ _ (HB2.out _ hg7') (gr_size hg7') E1.out).mono ?_
              rintro e w8 ⟨rfl, hg8⟩
              have hg8' : Gr w4 w8 := Gr.step hg8 hg7'
              clear hg8
              go_wp2_with fail
              go_ret
              exact ⟨rfl, Gr.step hg8' hg3⟩
          · have e1 : sum cl ≠ sum l := fun e => e0 (hiff2.2 (hiff.1 e.symm))
            have hd : decide (l = cl) = false := decide_eq_false e0
            have E1 := Lib.hid e1
            have HD := Lib.hid hd
            have hb : (((sum l : Nat) : Int) == ((sum cl : Nat) : Int)) = false := by
              have := E1.out
              simp; omega
            clear e0 e1 hd hiff hiff2 hnum hD hl hsl HN hsm hown
            rcases (by have := hend.out; omega : 32 ≤ k ∨ (k < 32 ∧ 8 * n ≤ f + k)) with h32 | ⟨h32, h8⟩
            all_goals
              go_wp2_with fail
              refine (same_any _ _ n c cap wr.heap.size l cl _ HBL.out HBC.out).mono ?_
              rintro e w3 ⟨rfl, q, rfl⟩
              rw [HD.out]
              have hg3 : Gr w (wr.drewN q) := below_drewN hg q
              have hb1 : Bs (wr.drewN q) (wr.drewN q).heap.size ⟨some ⟨b, o, none⟩, n, c⟩ l := HBL.out
              have hb2 : Bs (wr.drewN q) (wr.drewN q).heap.size ⟨some ⟨g, 0, none⟩, n, cap⟩ cl := HBC.out
              generalize wr.drewN q = w4 at *
              have HB1 : Hid (∀ W, Gr w4 W → Bs W w4.heap.size ⟨some ⟨b, o, none⟩, n, c⟩ l) := fun W hW => bs_gr hb1 hW (Nat.le_refl _)
              have HB2 : Hid (∀ W, Gr w4 W → Bs W w4.heap.size ⟨some ⟨g, 0, none⟩, n, cap⟩ cl) := fun W hW => bs_gr hb2 hW (Nat.le_refl _)
              clear hb1 hb2
              go_wp2_with fail
              refine (sum_oneG _ (HB1.out _ (Gr.refl _)) (Nat.le_refl _) _).mono ?_
              rintro e w5 ⟨rfl, hg5⟩
              have hg5' : Gr w4 w5 := Gr.step hg5 (Gr.at_alloc _ _)
              clear hg5
              go_wp2_with fail
              refine (sum_oneG _ (HB2.out _ hg5') (gr_size hg5') _).mono ?_
              rintro e w6 ⟨rfl, hg6⟩
              have hg6' : Gr w4 w6 := Gr.step hg6 (hg5'.alloc _)
              clear hg6
              go_wp2_with fail
              refine (sum_oneG _ (HB1.out _ hg6') (gr_size hg6') _).mono ?_
              rintro e w7 ⟨rfl, hg7⟩
              have hg7' : Gr w4 w7 := Gr.step hg7 (hg6'.alloc _)
              clear hg7
              go_wp2_with fail
              refine (fits_no _ _ _ cl (sum l) _ _ (HB2.out _ hg7') (gr_size hg7') E1.out).mono ?_
              rintro e w8 ⟨rfl, hg8⟩
              have hg8' : Gr w4 w8 := Gr.step hg8 hg7'
              clear hg8
              go_wp2_with fail
              go_ret
              exact ⟨rfl, Gr.step hg8' hg3⟩
end Go.Proofs.Ytkdphgcbecldbaa
/- Bits of a block turned. Plain. -/
namespace Go.Proofs.Ytkdphgcbecldbaa
open MixM
def rotF : Nat → Nat → Nat → List Nat → List Nat
  | 0, _, _, cl => cl
  | r + 1, m, f, cl => if m = 0 then cl else rotF r (m / 2) (f + 1) (cl.set (f / 8) (cl.getD (f / 8) 0 ^^^ m % 2 * 2 ^ (f % 8)))
/-- a block, of which bits from f on are turned by a mask -/
def rotB (l : List Nat) (f m : Nat) : List Nat := rotF (2048 - f) m f l
theorem rotF_len : ∀ (r m f : Nat) (cl : List Nat), (rotF r m f cl).length = cl.length
  | 0, _, _, _ => rfl
  | r + 1, m, f, cl => by
    unfold rotF
    split
    · rfl
    · rw [rotF_len r, List.length_set]
theorem small_set {cl : List Nat} (h : Small cl) (j : Nat) {x : Nat} (hx : x < 256) : Small (cl.set j x) := fun y hy => by
  rcases List.mem_or_eq_of_mem_set hy with h1 | h1
  · exact h y h1
  · rw [h1]; exact hx
theorem flip_small {cl : List Nat} (h : Small cl) (f m : Nat) : cl.getD (f / 8) 0 ^^^ m % 2 * 2 ^ (f % 8) < 256 :=
  Nat.xor_lt_two_pow (n := 8) (h.at_ _) (bt_lt _ _ (Nat.mod_lt _ (by decide)) (Nat.mod_lt _ (by decide)))
theorem rotF_small : ∀ (r m f : Nat) (cl : List Nat), Small cl → Small (rotF r m f cl)
  | 0, _, _, _, h => h
  | r + 1, m, f, cl, h => by
    unfold rotF
    split
    · exact h
    · exact rotF_small r _ _ _ (small_set h _ (flip_small h f m))
theorem rot_step (r m f : Nat) : m % 2 * 2 ^ (f % 8) * 256 ^ (f / 8) ^^^ m / 2 % 2 ^ r * 2 ^ (f + 1) = m % 2 ^ (r + 1) * 2 ^ f := by
  have e1 : m % 2 * 2 ^ (f % 8) * 256 ^ (f / 8) = m % 2 * 2 ^ f := by
    rw [show (256 : Nat) = 2 ^ 8 from rfl, ← Nat.pow_mul, Nat.mul_assoc, ← Nat.pow_add]
    congr 2
    omega
  have e2 : m / 2 % 2 ^ r * 2 ^ (f + 1) = (m / 2 % 2 ^ r * 2) * 2 ^ f := by rw [Nat.pow_succ, Nat.mul_assoc, Nat.mul_comm (2 ^ f) 2]
  have e3 : m % 2 ^ (r + 1) = m % 2 ^^^ m / 2 % 2 ^ r * 2 := by
    apply Nat.eq_of_testBit_eq
    intro i
    cases i with
    | zero =>
      rw [Nat.testBit_xor, Nat.testBit_mod_two_pow]
      have e : (m / 2 % 2 ^ r * 2).testBit 0 = false := by
        rw [Nat.testBit_zero]; simp
      have e' : (m % 2).testBit 0 = m.testBit 0 := by rw [Nat.testBit_zero, Nat.testBit_zero, Nat.mod_mod]
      rw [e, e']
      simp
    | succ i =>
      rw [Nat.testBit_xor, Nat.testBit_mod_two_pow, Nat.testBit_succ (m % 2), Nat.testBit_succ (m / 2 % 2 ^ r * 2), Nat.mul_div_cancel _ (by decide), Nat.testBit_mod_two_pow, show m % 2 / 2 = 0 by omega, Nat.zero_testBit, Nat.testBit_succ m]
      simp
  rw [e1, e2, e3]
  apply Nat.eq_of_testBit_eq
  intro i
  simp only [Nat.testBit_xor, Nat.testBit_mul_two_pow]
  cases decide (f ≤ i) <;> simp
theorem num_rotF : ∀ (r m f : Nat) (cl : List Nat), f + r ≤ 8 * cl.length → num (rotF r m f cl) = num cl ^^^ m % 2 ^ r * 2 ^ f
  | 0, m, f, cl, _ => by
    unfold rotF
    rw [Nat.pow_zero, Nat.mod_one, Nat.zero_mul, Nat.xor_zero]
  | r + 1, m, f, cl, h => by
    unfold rotF
    split
    · rename_i h0
      rw [h0, Nat.zero_mod, Nat.zero_mul, Nat.xor_zero]
    · have hj : f / 8 < cl.length := by omega
      have e := num_set cl (f / 8) (m % 2 * 2 ^ (f % 8)) hj
      rw [num_rotF r _ _ _ (by rw [List.length_set]; omega)]
      rw [List.getD_eq_getElem?_getD, List.getElem?_eq_getElem hj, Option.getD_some, e, Nat.xor_assoc, rot_step]
theorem num_rotB {l : List Nat} (hl : l.length = 256) (f m : Nat) (hf : f ≤ 2048) : num (rotB l f m) = num l ^^^ m % 2 ^ (2048 - f) * 2 ^ f := num_rotF _ _ _ _ (by rw [hl]; omega)
theorem num_inj : ∀ {a b : List Nat}, a.length = b.length → Small a → Small b → num a = num b → a = b
  | [], [], _, _, _, _ => rfl
  | x :: a, y :: b, h, ha, hb, e => by
    have hx := ha x (List.mem_cons_self ..)
    have hy := hb y (List.mem_cons_self ..)
    have e' : x ^^^ num a * 256 = y ^^^ num b * 256 := e
    have exy : x = y := by
      have h1 := congrArg (· % 2 ^ 8) e'
      simp only [Nat.xor_mod_two_pow] at h1
      have z1 : num a * 256 % 2 ^ 8 = 0 := Nat.mul_mod_left (num a) 256
      have z2 : num b * 256 % 2 ^ 8 = 0 := Nat.mul_mod_left (num b) 256
      rw [z1, z2, Nat.xor_zero, Nat.xor_zero, Nat.mod_eq_of_lt (show x < 2 ^ 8 by omega), Nat.mod_eq_of_lt (show y < 2 ^ 8 by omega)] at h1
      exact h1
    subst exy
    have h2 := congrArg (x ^^^ ·) e'
    simp only [← Nat.xor_assoc, Nat.xor_self, Nat.zero_xor] at h2
    have h3 : num a = num b := Nat.eq_of_mul_eq_mul_right (by decide) h2
    have h4 : a = b := num_inj (Nat.succ.inj h) (fun z hz => ha z (List.mem_cons_of_mem _ hz)) (fun z hz => hb z (List.mem_cons_of_mem _ hz)) h3
    rw [h4]
/-- turned twice: as it was -/
theorem rotB_twice {l : List Nat} (hl : l.length = 256) (hs : Small l) (f m : Nat) (hf : f ≤ 2048) : rotB (rotB l f m) f m = l := by
  have h1 : (rotB l f m).length = 256 := (rotF_len _ _ _ _).trans hl
  refine num_inj (by rw [show (rotB (rotB l f m) f m).length = (rotB l f m).length from rotF_len _ _ _ _, h1, hl]) (rotF_small _ _ _ _ (rotF_small _ _ _ _ hs)) hs ?_
  rw [num_rotB h1 f m hf, num_rotB hl f m hf, Nat.xor_assoc, Nat.xor_self, Nat.xor_zero]
/-- one bit is turned: another block -/
theorem rotB_one {l : List Nat} (hl : l.length = 256) (f m : Nat) (hf : f < 2048) (hm : m % 2 = 1) : rotB l f m ≠ l := by
  intro h
  have h1 := num_rotB hl f m (by omega)
  rw [h] at h1
  have h2 := congrArg (num l ^^^ ·) h1
  simp only [← Nat.xor_assoc, Nat.xor_self, Nat.zero_xor] at h2
  have h3 : m % 2 ^ (2048 - f) % 2 = 1 := by
    rw [show 2048 - f = (2048 - f - 1) + 1 by omega, Nat.pow_succ, Nat.mod_mul_left_mod]
    exact hm
  have h4 : 0 < m % 2 ^ (2048 - f) := by omega
  have h5 : 0 < 2 ^ f := Nat.two_pow_pos f
  have h6 := Nat.mul_pos h4 h5
  omega
end Go.Proofs.Ytkdphgcbecldbaa
