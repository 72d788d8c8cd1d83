/- The disk: store. -/
import Derived.Test.YtkdphgcbecldbaaDevK
import Derived.Test.YtkdphgcbecldbaaDevL
namespace Go.Proofs.Ytkdphgcbecldbaa
open Go.RowKit
/-- the first sectors of a write are stored -/
def Dk.st (D : Dk) (n : Nat) (l : List Nat) (many : Nat) : Dk := { D with bl := upd D.bl n (over (l.take (32 * many)) (D.bl n)), hu := if many = 8 then upd D.hu n false else D.hu }
set_option maxRecDepth 100000 in
set_option maxHeartbeats 1000000 in
theorem store_some (D : Dk) (n many : Nat) (l : List Nat) (w : World) (h : Dsk w D) (hn : n < D.k) (hm : many < 8) (hl : l.length = 256) (hs : Small l) :
    Calls Try.prog 57 #[.pointer (some ⟨D.d, 0, none⟩), .agg (lc (n, l)).toArray, .int .i64 many] w fun r w' => r = .returned (.tuple #[]) ∧ Mv w D w' (D.st n l many) := by
  have hgr := Gr.at_alloc w (.cells (lc (n, l)).toArray 95)
  have hD := h.gr hgr
  have hnew := heap_alloc_new w (.cells (lc (n, l)).toArray 95)
  have hx0 : (w.alloc (.cells (lc (n, l)).toArray 95)).cell? ⟨w.heap.size, 0, none⟩ = some (.int .i64 n) := by
    rw [cell_of_row _ _ _ _ _ _ hnew]; rfl
  have hx1 : (w.alloc (.cells (lc (n, l)).toArray 95)).rangeAt w.heap.size 1 (bvs l) := fun j v hv => by
    rw [cell_of_row _ _ _ _ _ _ hnew, Nat.add_comm]
    show (lc (n, l)).toArray[j + 1]? = _
    rw [List.getElem?_toArray, ← hv]
    exact List.getElem?_cons_succ
  have h4 := hD.c 4 rfl
  have hT : (w.alloc (.cells (lc (n, l)).toArray 95)).drew.there D.bb (n * 256) 256 := fun j hj => by
    have := hD.blT (n * 256 + j) (by have : (n + 1) * 256 ≤ D.k * 256 := Nat.mul_le_mul_right _ hn; omega)
    rw [Nat.zero_add] at this
    exact this
  generalize hX : (lc (n, l)).toArray = X at *
  have HX := Lib.hid hX
  have HH := Lib.hid h
  have HS := Lib.hid hs
  have HLL := Lib.hid hl
  have HD := Lib.hid hD
  have HT := Lib.hid hT
  have HX1 := Lib.hid hx1
  have HGR := Lib.hid hgr
  clear h hs hl hX hD hnew hT hx1 hgr
  have hne : ((many : Int) == 8) = false := by simp; omega
  go_enter Try.func57, Try.ntmps57
  go_wp2_with fail
  generalize w.alloc (.cells X 95) = W at *
  generalize w.heap.size = x at *
  have b1 : (0 : Int) ≤ (n : Int) := by omega
  have b2 : (n : Int) < (D.k : Int) := by omega
  go_still_tail 8, (by kernel_rfl)
  change wpList _ _ _ _ _ W.drew
  go_wp2_with fail
  refine (some_any x D.bb (n * 256) many l W.drew (by omega) HLL.out ((World.rangeAt_drew _ _ _ _).2 HX1.out) HT.out).mono ?_
  rintro e w2 ⟨rfl, rfl⟩
  have hlt : (l.take (32 * many)).length ≤ 256 := by rw [List.length_take, HLL.out]; omega
  have hD' : Dsk W.drew.drew D := (HD.out.gr (Gr.drew W)).gr (Gr.drew _)
  have HMV := Lib.hid (Mv.bytes hD' hn hlt (small_take HS.out _))
  have HMW : Hid (Mv w D W.drew.drew D) := Mv.gr HH.out (Below.drew (Below.drew HGR.out))
  clear hlt hD'
  generalize W.drew.drew.setCells D.bb (n * 256) (bvs (l.take (32 * many))) = w3 at *
  go_wp2_with fail
  go_end0
  refine ⟨rfl, ?_⟩
  have e : D.st n l many = { D with bl := upd D.bl n (over (l.take (32 * many)) (D.bl n)) } := by
    unfold Dk.st
    rw [if_neg (by omega)]
  rw [e]
  exact HMW.out.trans HMV.out
set_option maxRecDepth 100000 in
set_option maxHeartbeats 1000000 in
theorem store_all (D : Dk) (n : Nat) (l : List Nat) (w : World) (h : Dsk w D) (hn : n < D.k) (hl : l.length = 256) (hs : Small l) :
    Calls Try.prog 57 #[.pointer (some ⟨D.d, 0, none⟩), .agg (lc (n, l)).toArray, .int .i64 8] w fun r w' => r = .returned (.tuple #[]) ∧ Mv w D w' (D.st n l 8) := by
  have hgr := Gr.at_alloc w (.cells (lc (n, l)).toArray 95)
  have hD := h.gr hgr
  have hnew := heap_alloc_new w (.cells (lc (n, l)).toArray 95)
  have hx0 : (w.alloc (.cells (lc (n, l)).toArray 95)).cell? ⟨w.heap.size, 0, none⟩ = some (.int .i64 n) := by
    rw [cell_of_row _ _ _ _ _ _ hnew]; rfl
  have hx1 : (w.alloc (.cells (lc (n, l)).toArray 95)).rangeAt w.heap.size 1 (bvs l) := fun j v hv => by
    rw [cell_of_row _ _ _ _ _ _ hnew, Nat.add_comm]
    show (lc (n, l)).toArray[j + 1]? = _
    rw [List.getElem?_toArray, ← hv]
    exact List.getElem?_cons_succ
  have h4 := hD.c 4 rfl
  have hT : (w.alloc (.cells (lc (n, l)).toArray 95)).drew.there D.bb (n * 256) 256 := fun j hj => by
    have := hD.blT (n * 256 + j) (by have : (n + 1) * 256 ≤ D.k * 256 := Nat.mul_le_mul_right _ hn; omega)
    rw [Nat.zero_add] at this
    exact this
  generalize hX : (lc (n, l)).toArray = X at *
  have HX := Lib.hid hX
  have HH := Lib.hid h
  have HS := Lib.hid hs
  have HLL := Lib.hid hl
  have HD := Lib.hid hD
  have HT := Lib.hid hT
  have HX1 := Lib.hid hx1
  have HGR := Lib.hid hgr
  clear h hs hl hX hD hnew hT hx1 hgr
  go_enter Try.func57, Try.ntmps57
  go_wp2_with fail
  generalize w.alloc (.cells X 95) = W at *
  generalize hxe : w.heap.size = x at *
  have HXE := Lib.hid hxe
  clear hxe
  have b1 : (0 : Int) ≤ (n : Int) := by omega
  have b2 : (n : Int) < (D.k : Int) := by omega
  have h5 := HD.out.c 5 rfl
  have hb1 : W.drew.cell? ⟨D.hb, n, none⟩ = some (.bool (D.hu n)) := HD.out.hus n hn
  have hb2 : W.drew.frozen? ⟨D.hb, n, none⟩ = false := by
    have := (HD.out.huT n hn).2
    rw [Nat.zero_add] at this
    exact this
  go_still_tail 7, (by kernel_rfl)
  change wpList _ _ _ _ _ W.drew
  go_wp2_with fail
  have hm0 := Mv.hurt HD.out hn false
  have hm1 : Mv W D (W.setCell ⟨D.hb, n, none⟩ (.bool false)).drew { D with hu := upd D.hu n false } := hm0.trans (Mv.gr hm0.2.1 (Gr.drew _))
  have hxb : x ≠ D.hb := by have := HD.out.o6; have := HH.out.o7; have := HXE.out; have := HH.out.o6; omega
  have hx0' : (W.setCell ⟨D.hb, n, none⟩ (.bool false)).drew.cell? ⟨x, 0, none⟩ = some (.int .i64 n) := by
    show (W.setCell ⟨D.hb, n, none⟩ (.bool false)).cell? _ = _
    rw [World.cell?_setCell_other _ _ _ _ (by intro e; injection e with e; exact hxb e.symm)]
    exact hx0
  have hx1' : (W.setCell ⟨D.hb, n, none⟩ (.bool false)).drew.rangeAt x 1 (bvs l) :=
    (World.rangeAt_drew _ _ _ _).2 (World.rangeAt_setCells_apart HX1.out D.hb n [.bool false] (.inl hxb))
  have HM1 := Lib.hid hm1
  have HX1' := Lib.hid hx1'
  clear hm0 hm1 hx1' hb1 hb2 h5 h4 hx0 hxb
  generalize (W.setCell ⟨D.hb, n, none⟩ (.bool false)).drew = W1 at *
  have h4 : W1.cell? ⟨D.d, 4, none⟩ = some (.slice (some ⟨D.bb, 0, none⟩) D.k D.k) := HM1.out.2.1.c 4 rfl
  go_still_tail 8, (by kernel_rfl)
  change wpList _ _ _ _ _ W1.drew
  go_wp2_with fail
  have hT1 : W1.drew.there D.bb (n * 256) 256 := fun j hj => by
    have := HM1.out.2.1.blT (n * 256 + j) (by show n * 256 + j < D.k * 256; have : (n + 1) * 256 ≤ D.k * 256 := Nat.mul_le_mul_right _ hn; omega)
    rw [Nat.zero_add] at this
    exact this
  refine (some_any x D.bb (n * 256) 8 l W1.drew (by omega) HLL.out ((World.rangeAt_drew _ _ _ _).2 HX1'.out) hT1).mono ?_
  rintro e w2 ⟨rfl, rfl⟩
  have hlt : (l.take (32 * 8)).length ≤ 256 := by rw [List.length_take, HLL.out]; omega
  have hD' : Dsk W1.drew.drew { D with hu := upd D.hu n false } := (HM1.out.2.1.gr (Gr.drew W1)).gr (Gr.drew _)
  have HMV := Lib.hid (Mv.bytes (D := { D with hu := upd D.hu n false }) hD' hn hlt (small_take HS.out _))
  have HMW : Hid (Mv w D W1.drew.drew { D with hu := upd D.hu n false }) := ((Mv.gr HH.out HGR.out).trans HM1.out).trans (Mv.gr HM1.out.2.1 (Below.drew (Gr.drew W1)))
  clear hlt hD' hT1
  generalize W1.drew.drew.setCells D.bb (n * 256) (bvs (l.take (32 * 8))) = w3 at *
  go_wp2_with fail
  go_end0
  refine ⟨rfl, ?_⟩
  have e : D.st n l 8 = { D with hu := upd D.hu n false, bl := upd D.bl n (over (l.take (32 * 8)) (D.bl n)) } := by
    unfold Dk.st
    rw [if_pos rfl]
  rw [e]
  exact HMW.out.trans HMV.out
end Go.Proofs.Ytkdphgcbecldbaa
