/- Texts of the proof, one behind the other: DevL, DevM, DevJ, DevN, DevO, DevP. -/
import Derived.Test.YtkdphgcbecldbaaJg
/- The disk: a block, a hurt is turned. No program in sight. -/
namespace Go.Proofs.Ytkdphgcbecldbaa
open Go.RowKit
def upd {α : Type} (f : Nat → α) (n : Nat) (x : α) : Nat → α := fun i => if i = n then x else f i
theorem upd_same {α : Type} (f : Nat → α) (n : Nat) (x : α) : upd f n x n = x := if_pos rfl
theorem upd_other {α : Type} (f : Nat → α) {n i : Nat} (x : α) (h : i ≠ n) : upd f n x i = f i := if_neg h
/-- the first bytes of a block are others -/
def over (p b : List Nat) : List Nat := p ++ b.drop p.length
theorem over_len {p b : List Nat} (h : p.length ≤ b.length) : (over p b).length = b.length := by unfold over; rw [List.length_append, List.length_drop]; omega
theorem small_over {p b : List Nat} (hp : Small p) (hb : Small b) : Small (over p b) := fun x hx => by
  rcases List.mem_append.1 hx with h | h
  · exact hp x h
  · exact hb x (List.mem_of_mem_drop h)
/-- cells of a block of the disk's, of the hurts' -/
theorem Dsk.turned {S : Nat → Prop} {w w3 : World} {D : Dk} (h : Dsk w D) (hk : Kp S w w3) (h1 : ¬ S D.d) (hv : ∀ b, D.wv.ownBlock = some b → ¬ S b) {bl' : Nat → List Nat} {hu' : Nat → Bool}
    (b1 : ∀ i, i < D.k → w3.rangeAt D.bb (i * 256) (bvs (bl' i))) (b2 : w3.there D.bb 0 (D.k * 256)) (b3 : ∀ i, i < D.k → (bl' i).length = 256 ∧ Small (bl' i))
    (h2 : ∀ i, i < D.k → w3.cell? ⟨D.hb, i, none⟩ = some (.bool (hu' i))) (h3 : w3.there D.hb 0 D.k) : Dsk w3 { D with bl := bl', hu := hu' } := by
  have d4 := h.o4; have d7 := h.o7
  have cd : ∀ i, w3.cell? ⟨D.d, i, none⟩ = w.cell? ⟨D.d, i, none⟩ := fun i => hk.cell (p := ⟨D.d, i, none⟩) (by simp only; omega) h1
  have fd : ∀ i, w3.frozen? ⟨D.d, i, none⟩ = w.frozen? ⟨D.d, i, none⟩ := fun i => hk.frozen (p := ⟨D.d, i, none⟩) (by simp only; omega) h1
  refine ⟨h.kpos, h.kle, fun j v hv => (cd _).trans (h.row j v hv), fun j hj => ?_, b1, b2, b3, h2, h3, ?_, h.wsn, h.o1, h.o2, h.o3, d4, h.o5, h.o6, Nat.le_trans d7 hk.size, h.arm⟩
  · show (w3.cell? ⟨D.d, 0 + j, none⟩).isSome = true ∧ w3.frozen? ⟨D.d, 0 + j, none⟩ = false
    rw [cd, fd]; exact h.rowT j hj
  · obtain ⟨hl, h1 | ⟨g, cap, cur, hv', hg, hh, hr⟩⟩ := h.own
    · exact ⟨hl, .inl h1⟩
    · have hlt := (h.own_ge (b := g) (by rw [hv']; rfl)).2
      exact ⟨hl, .inr ⟨g, cap, cur, hv', hg, (hk.block g hlt (hv g (by rw [hv']; rfl))).trans hh, hr⟩⟩
theorem bvs_append (a b : List Nat) : bvs (a ++ b) = bvs a ++ bvs b := List.map_append ..
theorem bvs_drop (a : List Nat) (n : Nat) : bvs (a.drop n) = (bvs a).drop n := List.map_drop ..
/-- the first bytes of a block are written -/
theorem Mv.bytes {w : World} {D : Dk} (h : Dsk w D) {n : Nat} (hn : n < D.k) {p : List Nat} (hp : p.length ≤ 256) (hs : Small p) :
    Mv w D (w.setCells D.bb (n * 256) (bvs p)) { D with bl := upd D.bl n (over p (D.bl n)) } := by
  have d5 := h.o5; have d7 := h.o7
  have hlen := (h.bln n hn).1
  have kk : Kp (fun b => b = D.bb) w (w.setCells D.bb (n * 256) (bvs p)) := Kp.setCells (S := fun b => b = D.bb) D.bb (.inl rfl) _ _ _ (Kp.refl _ _)
  have hth : w.there D.bb (n * 256) p.length := fun j hj => by
    have := h.blT (n * 256 + j) (by have : (n + 1) * 256 ≤ D.k * 256 := Nat.mul_le_mul_right _ hn; omega)
    rwa [Nat.zero_add] at this
  refine ⟨kk.mono fun i hi => .inr (.inl hi), ?_, fun b hb => .inl hb, rfl⟩
  refine Dsk.turned (D := D) (hu' := D.hu) h kk (fun e => h.o1 e) (fun b hb e => ?_) ?_ ?_ ?_ ?_ ?_
  · subst e; exact h.not_own d5 hb
  · intro i hi
    by_cases hin : i = n
    · subst hin
      rw [upd_same]
      unfold over
      rw [bvs_append, bvs_drop]
      intro j v hv
      by_cases hj : j < (bvs p).length
      · rw [List.getElem?_append_left hj] at hv
        exact World.rangeAt_setCells_same w D.bb (i * 256) (bvs p) (by rw [bvs_len]; exact hth) j v hv
      · rw [List.getElem?_append_right (by omega), List.getElem?_drop] at hv
        rw [World.cell?_setCells_out D.bb (bvs p) (i * 256) w ⟨D.bb, i * 256 + j, none⟩ (fun _ _ => .inr (by show i * 256 + (bvs p).length ≤ i * 256 + j; omega))]
        refine h.bls i hi j v ?_
        rw [bvs_len] at hv hj
        rw [show j = p.length + (j - p.length) by omega]
        exact hv
    · rw [upd_other _ _ hin]
      refine World.rangeAt_setCells_apart (h.bls i hi) D.bb (n * 256) (bvs p) (.inr ?_)
      rw [bvs_len, bvs_len, (h.bln i hi).1]
      rcases Nat.lt_or_ge i n with hlt | hge
      · left
        have : (i + 1) * 256 ≤ n * 256 := Nat.mul_le_mul_right _ hlt
        omega
      · right
        have : (n + 1) * 256 ≤ i * 256 := Nat.mul_le_mul_right _ (by omega)
        omega
  · exact World.there_setCells h.blT _ _ _
  · intro i hi
    by_cases hin : i = n
    · subst hin
      rw [upd_same]
      exact ⟨by rw [over_len (by omega), hlen], small_over hs (h.bln i hi).2⟩
    · rw [upd_other _ _ hin]; exact h.bln i hi
  · intro i hi
    rw [kk.cell (p := ⟨D.hb, i, none⟩) (by have := h.o6; simp only; omega) (fun e => h.o3 e.symm)]
    exact h.hus i hi
  · exact World.there_setCells h.huT _ _ _
/-- a block's hurt is turned -/
theorem Mv.hurt {w : World} {D : Dk} (h : Dsk w D) {n : Nat} (hn : n < D.k) (v : Bool) :
    Mv w D (w.setCell ⟨D.hb, n, none⟩ (.bool v)) { D with hu := upd D.hu n v } := by
  have d5 := h.o5; have d6 := h.o6; have d7 := h.o7
  have kk : Kp (fun b => b = D.hb) w (w.setCell ⟨D.hb, n, none⟩ (.bool v)) := (Kp.refl (fun b => b = D.hb) w).setCell (.inl rfl) _
  refine ⟨kk.mono fun i hi => .inr (.inr (.inl hi)), ?_, fun b hb => .inl hb, rfl⟩
  refine Dsk.turned (D := D) (bl' := D.bl) h kk (fun e => h.o2 e) (fun b hb e => ?_) ?_ ?_ h.bln ?_ ?_
  · subst e; exact h.not_own d6 hb
  · intro i hi
    exact World.rangeAt_setCells_apart (h.bls i hi) D.hb n [.bool v] (.inl h.o3)
  · exact World.there_setCells h.blT D.hb n [.bool v]
  · intro i hi
    by_cases hin : i = n
    · subst hin
      rw [upd_same, World.cell?_setCell_same _ _ _ (h.hus i hi)]
    · rw [upd_other _ _ hin, World.cell?_setCell_other _ _ _ _ (by intro e; injection e with _ e; exact hin e.symm)]
      exact h.hus i hi
  · exact World.there_setCells h.huT D.hb n [.bool v]
end Go.Proofs.Ytkdphgcbecldbaa
/- The disk: store. -/
namespace Go.Proofs.Ytkdphgcbecldbaa
open Go.RowKit
/-- the first sectors of a write are stored -/
def Dk.st (D : Dk) (n : Nat) (l : List Nat) (many : Nat) : Dk := { D with bl := upd D.bl n (over (l.take (32 * many)) (D.bl n)), hu := if many = 8 then upd D.hu n false else D.hu }
set_option maxRecDepth 100000 in
set_option maxHeartbeats 1000000 in
theorem store_some (D : Dk) (n many : Nat) (l : List Nat) (w : World) (h : Dsk w D) (hn : n < D.k) (hm : many < 8) (hl : l.length = 256) (hs : Small l) :
    Calls Try.prog 57 #[.pointer (some ⟨D.d, 0, none⟩), .agg (lc (n, l)).toArray, .int .i64 many] w fun r w' => r = .returned (.tuple #[]) ∧ Mv w D w' (D.st n l many) := by
  have hgr := Gr.at_alloc w (.cells (lc (n, l)).toArray 95)
  have hD := h.gr hgr
  have hnew := heap_alloc_new w (.cells (lc (n, l)).toArray 95)
  have hx0 : (w.alloc (.cells (lc (n, l)).toArray 95)).cell? ⟨w.heap.size, 0, none⟩ = some (.int .i64 n) := by
    rw [cell_of_row _ _ _ _ _ _ hnew]; rfl
  have hx1 : (w.alloc (.cells (lc (n, l)).toArray 95)).rangeAt w.heap.size 1 (bvs l) := fun j v hv => by
    rw [cell_of_row _ _ _ _ _ _ hnew, Nat.add_comm]
    show (lc (n, l)).toArray[j + 1]? = _
    rw [List.getElem?_toArray, ← hv]
    exact List.getElem?_cons_succ
  have h4 := hD.c 4 rfl
  have hT : (w.alloc (.cells (lc (n, l)).toArray 95)).drew.there D.bb (n * 256) 256 := fun j hj => by
    have := hD.blT (n * 256 + j) (by have : (n + 1) * 256 ≤ D.k * 256 := Nat.mul_le_mul_right _ hn; omega)
    rw [Nat.zero_add] at this
    exact this
  generalize hX : (lc (n, l)).toArray = X at *
  have HX := Lib.hid hX
  have HH := Lib.hid h
  have HS := Lib.hid hs
  have HLL := Lib.hid hl
  have HD := Lib.hid hD
  have HT := Lib.hid hT
  have HX1 := Lib.hid hx1
  have HGR := Lib.hid hgr
  clear h hs hl hX hD hnew hT hx1 hgr
  have hne : ((many : Int) == 8) = false := by simp; omega
  go_enter Try.func57, Try.ntmps57
  go_wp2_with fail
  generalize w.alloc (.cells X 95) = W at *
  generalize w.heap.size = x at *
  have b1 : (0 : Int) ≤ (n : Int) := by omega
  have b2 : (n : Int) < (D.k : Int) := by omega
  go_still_tail 8, (by kernel_rfl)
  change wpList _ _ _ _ _ W.drew
  go_wp2_with fail
  refine (some_any x D.bb (n * 256) many l W.drew (by omega) HLL.out ((World.rangeAt_drew _ _ _ _).2 HX1.out) HT.out).mono ?_
  rintro e w2 ⟨rfl, rfl⟩
  have hlt : (l.take (32 * many)).length ≤ 256 := by rw [List.length_take, HLL.out]; omega
  have hD' : Dsk W.drew.drew D := (HD.out.gr (Gr.drew W)).gr (Gr.drew _)
  have HMV := Lib.hid (Mv.bytes hD' hn hlt (small_take HS.out _))
  have HMW : Hid (Mv w D W.drew.drew D) := Mv.gr HH.out (Below.drew (Below.drew HGR.out))
  clear hlt hD'
  generalize W.drew.drew.setCells D.bb (n * 256) (bvs (l.take (32 * many))) = w3 at *
  go_wp2_with fail
  go_end0
  refine ⟨rfl, ?_⟩
  have e : D.st n l many = { D with bl := upd D.bl n (over (l.take (32 * many)) (D.bl n)) } := by
    unfold Dk.st
    rw [if_neg (by omega)]
  rw [e]
  exact HMW.out.trans HMV.out
set_option maxRecDepth 100000 in
set_option maxHeartbeats 1000000 in
theorem store_all (D : Dk) (n : Nat) (l : List Nat) (w : World) (h : Dsk w D) (hn : n < D.k) (hl : l.length = 256) (hs : Small l) :
    Calls Try.prog 57 #[.pointer (some ⟨D.d, 0, none⟩), .agg (lc (n, l)).toArray, .int .i64 8] w fun r w' => r = .returned (.tuple #[]) ∧ Mv w D w' (D.st n l 8) := by
  have hgr := Gr.at_alloc w (.cells (lc (n, l)).toArray 95)
  have hD := h.gr hgr
  have hnew := heap_alloc_new w (.cells (lc (n, l)).toArray 95)
  have hx0 : (w.alloc (.cells (lc (n, l)).toArray 95)).cell? ⟨w.heap.size, 0, none⟩ = some (.int .i64 n) := by
    rw [cell_of_row _ _ _ _ _ _ hnew]; rfl
  have hx1 : (w.alloc (.cells (lc (n, l)).toArray 95)).rangeAt w.heap.size 1 (bvs l) := fun j v hv => by
    rw [cell_of_row _ _ _ _ _ _ hnew, Nat.add_comm]
    show (lc (n, l)).toArray[j + 1]? = _
    rw [List.getElem?_toArray, ← hv]
    exact List.getElem?_cons_succ
  have h4 := hD.c 4 rfl
  have hT : (w.alloc (.cells (lc (n, l)).toArray 95)).drew.there D.bb (n * 256) 256 := fun j hj => by
    have := hD.blT (n * 256 + j) (by have : (n + 1) * 256 ≤ D.k * 256 := Nat.mul_le_mul_right _ hn; omega)
    rw [Nat.zero_add] at this
    exact this
  generalize hX : (lc (n, l)).toArray = X at *
  have HX := Lib.hid hX
  have HH := Lib.hid h
  have HS := Lib.hid hs
  have HLL := Lib.hid hl
  have HD := Lib.hid hD
  have HT := Lib.hid hT
  have HX1 := Lib.hid hx1
  have HGR := Lib.hid hgr
  clear h hs hl hX hD hnew hT hx1 hgr
  go_enter Try.func57, Try.ntmps57
  go_wp2_with fail
  generalize w.alloc (.cells X 95) = W at *
  generalize hxe : w.heap.size = x at *
  have HXE := Lib.hid hxe
  clear hxe
  have b1 : (0 : Int) ≤ (n : Int) := by omega
  have b2 : (n : Int) < (D.k : Int) := by omega
  have h5 := HD.out.c 5 rfl
  have hb1 : W.drew.cell? ⟨D.hb, n, none⟩ = some (.bool (D.hu n)) := HD.out.hus n hn
  have hb2 : W.drew.frozen? ⟨D.hb, n, none⟩ = false := by
    have := (HD.out.huT n hn).2
    rw [Nat.zero_add] at this
    exact this
  go_still_tail 7, (by kernel_rfl)
  change wpList _ _ _ _ _ W.drew
  go_wp2_with fail
  have hm0 := Mv.hurt HD.out hn false
  have hm1 : Mv W D (W.setCell ⟨D.hb, n, none⟩ (.bool false)).drew { D with hu := upd D.hu n false } := hm0.trans (Mv.gr hm0.2.1 (Gr.drew _))
  have hxb : x ≠ D.hb := by have := HD.out.o6; have := HH.out.o7; have := HXE.out; have := HH.out.o6; omega
  have hx0' : (W.setCell ⟨D.hb, n, none⟩ (.bool false)).drew.cell? ⟨x, 0, none⟩ = some (.int .i64 n) := by
    show (W.setCell ⟨D.hb, n, none⟩ (.bool false)).cell? _ = _
    rw [World.cell?_setCell_other _ _ _ _ (by intro e; injection e with e; exact hxb e.symm)]
    exact hx0
  have hx1' : (W.setCell ⟨D.hb, n, none⟩ (.bool false)).drew.rangeAt x 1 (bvs l) :=
    (World.rangeAt_drew _ _ _ _).2 (World.rangeAt_setCells_apart HX1.out D.hb n [.bool false] (.inl hxb))
  have HM1 := Lib.hid hm1
  have HX1' := Lib.hid hx1'
  clear hm0 hm1 hx1' hb1 hb2 h5 h4 hx0 hxb
  generalize (W.setCell ⟨D.hb, n, none⟩ (.bool false)).drew = W1 at *
  have h4 : W1.cell? ⟨D.d, 4, none⟩ = some (.slice (some ⟨D.bb, 0, none⟩) D.k D.k) := HM1.out.2.1.c 4 rfl
  go_still_tail 8, (by kernel_rfl)
  change wpList _ _ _ _ _ W1.drew
  go_wp2_with fail
  have hT1 : W1.drew.there D.bb (n * 256) 256 := fun j hj => by
    have := HM1.out.2.1.blT (n * 256 + j) (by show n * 256 + j < D.k * 256; have : (n + 1) * 256 ≤ D.k * 256 := Nat.mul_le_mul_right _ hn; omega)
    rw [Nat.zero_add] at this
    exact this
  refine (some_any x D.bb (n * 256) 8 l W1.drew (by omega) HLL.out ((World.rangeAt_drew _ _ _ _).2 HX1'.out) hT1).mono ?_
  rintro e w2 ⟨rfl, rfl⟩
  have hlt : (l.take (32 * 8)).length ≤ 256 := by rw [List.length_take, HLL.out]; omega
  have hD' : Dsk W1.drew.drew { D with hu := upd D.hu n false } := (HM1.out.2.1.gr (Gr.drew W1)).gr (Gr.drew _)
  have HMV := Lib.hid (Mv.bytes (D := { D with hu := upd D.hu n false }) hD' hn hlt (small_take HS.out _))
  have HMW : Hid (Mv w D W1.drew.drew { D with hu := upd D.hu n false }) := ((Mv.gr HH.out HGR.out).trans HM1.out).trans (Mv.gr HM1.out.2.1 (Below.drew (Gr.drew W1)))
  clear hlt hD' hT1
  generalize W1.drew.drew.setCells D.bb (n * 256) (bvs (l.take (32 * 8))) = w3 at *
  go_wp2_with fail
  go_end0
  refine ⟨rfl, ?_⟩
  have e : D.st n l 8 = { D with hu := upd D.hu n false, bl := upd D.bl n (over (l.take (32 * 8)) (D.bl n)) } := by
    unfold Dk.st
    rw [if_pos rfl]
  rw [e]
  exact HMW.out.trans HMV.out
end Go.Proofs.Ytkdphgcbecldbaa
/- The disk: Write, where it does not write. -/
namespace Go.Proofs.Ytkdphgcbecldbaa
open Go.RowKit
theorem told_cd (c : Int) (w : World) (hc : c = 1 ∨ c = 11 ∨ c = 2 ∨ c = 16) : Calls Try.prog 56 #[.iface 89 (.int .i64 c)] w fun r w' => r = .returned (.int .i64 c) ∧ Gr w w' := told_any (.cd c) hc w
theorem told_at (n c : Int) (w : World) (hc : c = 1 ∨ c = 11 ∨ c = 2 ∨ c = 16) : Calls Try.prog 56 #[.iface 91 (.agg #[.int .i64 n, .iface 89 (.int .i64 c)])] w fun r w' => r = .returned (.int .i64 c) ∧ Gr w w' := told_any (.at_ n c) hc w
set_option maxRecDepth 100000 in
set_option maxHeartbeats 1000000 in
theorem write_down (D : Dk) (n : Int) (s : Value) (w : World) (h : Dsk w D) (hd : D.dn = true) :
    Calls Try.prog 26 #[.pointer (some ⟨D.d, 0, none⟩), .int .i64 n, s] w fun r w' => r = .returned (.int .i64 11) ∧ Mv w D w' D := by
  have HH := Lib.hid h
  have Hd := Lib.hid hd
  clear h hd
  by_cases hn : n < 0 ∨ (D.k : Int) ≤ n
  · have HN := Lib.hid hn
    clear hn
    go_enter Try.func26, Try.ntmps26
    go_wp2_with fail
    refine (up_no D _ HH.out Hd.out).mono ?_
    rintro e w1 ⟨rfl, rfl⟩
    go_wp2_with fail
    refine (there_no D n _ HH.out HN.out).mono ?_
    rintro e w1 ⟨rfl, rfl⟩
    go_wp2_with fail
    refine (first_nn _ _ 11 n 2 (heap_alloc_new w _)).mono ?_
    rintro e w1 ⟨rfl, rfl⟩
    have HG := Lib.hid (Gr.at_alloc w (.cells #[.iface 89 (.int .i64 11), .iface 91 (.agg #[.int .i64 n, .iface 89 (.int .i64 2)])] 70))
    generalize w.alloc (.cells #[.iface 89 (.int .i64 11), .iface 91 (.agg #[.int .i64 n, .iface 89 (.int .i64 2)])] 70) = W at *
    go_wp2_with fail
    refine (told_cd 11 _ (by omega)).mono ?_
    rintro e w2 ⟨rfl, hg⟩
    go_wp2_with fail
    go_ret
    exact ⟨rfl, Mv.gr HH.out (Gr.step hg HG.out)⟩
  · have h0 : 0 ≤ n := by omega
    have h1 : n < D.k := by omega
    clear hn
    go_enter Try.func26, Try.ntmps26
    go_wp2_with fail
    refine (up_no D _ HH.out Hd.out).mono ?_
    rintro e w1 ⟨rfl, rfl⟩
    go_wp2_with fail
    refine (there_ok D n _ HH.out h0 h1).mono ?_
    rintro e w1 ⟨rfl, rfl⟩
    go_wp2_with fail
    refine (first_no _ _ 11 (heap_alloc_new w _)).mono ?_
    rintro e w1 ⟨rfl, rfl⟩
    have HG := Lib.hid (Gr.at_alloc w (.cells #[.iface 89 (.int .i64 11), .nilIface] 70))
    generalize w.alloc (.cells #[.iface 89 (.int .i64 11), .nilIface] 70) = W at *
    go_wp2_with fail
    refine (told_cd 11 _ (by omega)).mono ?_
    rintro e w2 ⟨rfl, hg⟩
    go_wp2_with fail
    go_ret
    exact ⟨rfl, Mv.gr HH.out (Gr.step hg HG.out)⟩
set_option maxRecDepth 100000 in
set_option maxHeartbeats 1000000 in
theorem write_out (D : Dk) (n : Int) (s : Value) (w : World) (h : Dsk w D) (hd : D.dn = false) (hn : n < 0 ∨ (D.k : Int) ≤ n) :
    Calls Try.prog 26 #[.pointer (some ⟨D.d, 0, none⟩), .int .i64 n, s] w fun r w' => r = .returned (.int .i64 2) ∧ Mv w D w' D := by
  have HH := Lib.hid h
  have Hd := Lib.hid hd
  have HN := Lib.hid hn
  clear h hd hn
  go_enter Try.func26, Try.ntmps26
  go_wp2_with fail
  refine (up_ok D _ HH.out Hd.out).mono ?_
  rintro e w1 ⟨rfl, rfl⟩
  go_wp2_with fail
  refine (there_no D n _ HH.out HN.out).mono ?_
  rintro e w1 ⟨rfl, rfl⟩
  go_wp2_with fail
  refine (first_on _ _ n 2 (heap_alloc_new w _)).mono ?_
  rintro e w1 ⟨rfl, rfl⟩
  have HG := Lib.hid (Gr.at_alloc w (.cells #[.nilIface, .iface 91 (.agg #[.int .i64 n, .iface 89 (.int .i64 2)])] 70))
  generalize w.alloc (.cells #[.nilIface, .iface 91 (.agg #[.int .i64 n, .iface 89 (.int .i64 2)])] 70) = W at *
  go_wp2_with fail
  refine (told_at n 2 _ (by omega)).mono ?_
  rintro e w2 ⟨rfl, hg⟩
  go_wp2_with fail
  go_ret
  exact ⟨rfl, Mv.gr HH.out (Gr.step hg HG.out)⟩
set_option maxRecDepth 100000 in
set_option maxHeartbeats 1000000 in
theorem write_long (D : Dk) (n : Int) (A : Option Addr) (len c : Nat) (w : World) (h : Dsk w D) (hd : D.dn = false) (h0 : 0 ≤ n) (h1 : n < D.k) (hl : 256 < len) :
    Calls Try.prog 26 #[.pointer (some ⟨D.d, 0, none⟩), .int .i64 n, .slice A len c] w fun r w' => r = .returned (.int .i64 2) ∧ Mv w D w' D := by
  have HH := Lib.hid h
  have Hd := Lib.hid hd
  clear h hd
  go_enter Try.func26, Try.ntmps26
  go_wp2_with fail
  refine (up_ok D _ HH.out Hd.out).mono ?_
  rintro e w1 ⟨rfl, rfl⟩
  go_wp2_with fail
  refine (there_ok D n _ HH.out h0 h1).mono ?_
  rintro e w1 ⟨rfl, rfl⟩
  go_wp2_with fail
  refine (first_oo _ _ (heap_alloc_new w _)).mono ?_
  rintro e w1 ⟨rfl, rfl⟩
  have HG := Lib.hid (Gr.at_alloc w (.cells #[.nilIface, .nilIface] 70))
  generalize w.alloc (.cells #[.nilIface, .nilIface] 70) = W at *
  go_wp2_with fail
  refine (told_at n 2 _ (by omega)).mono ?_
  rintro e w2 ⟨rfl, hg⟩
  go_wp2_with fail
  go_ret
  exact ⟨rfl, Mv.gr HH.out (Gr.step hg HG.out)⟩
set_option maxRecDepth 100000 in
set_option maxHeartbeats 1000000 in
theorem write_fall (D : Dk) (n : Int) (A : Option Addr) (len c : Nat) (w : World) (h : Dsk w D) (hd : D.dn = false) (h0 : 0 ≤ n) (h1 : n < D.k) (hl : len ≤ 256) (ha : D.ar = 1) :
    Calls Try.prog 26 #[.pointer (some ⟨D.d, 0, none⟩), .int .i64 n, .slice A len c] w fun r w' => r = .returned (.int .i64 11) ∧ Mv w D w' D.fall := by
  have HH := Lib.hid h
  have Hd := Lib.hid hd
  have HA := Lib.hid ha
  clear h hd ha
  go_enter Try.func26, Try.ntmps26
  go_wp2_with fail
  refine (up_ok D _ HH.out Hd.out).mono ?_
  rintro e w1 ⟨rfl, rfl⟩
  go_wp2_with fail
  refine (there_ok D n _ HH.out h0 h1).mono ?_
  rintro e w1 ⟨rfl, rfl⟩
  go_wp2_with fail
  refine (first_oo _ _ (heap_alloc_new w _)).mono ?_
  rintro e w1 ⟨rfl, rfl⟩
  have HG := Lib.hid (Gr.at_alloc w (.cells #[.nilIface, .nilIface] 70))
  generalize w.alloc (.cells #[.nilIface, .nilIface] 70) = W at *
  go_wp2_with fail
  refine (turn_no D _ (HH.out.gr HG.out) HA.out).mono ?_
  rintro e w1 ⟨rfl, hm⟩
  simp only [De.v]
  have HM := Lib.hid hm
  clear hm
  go_wp2_with fail
  refine (told_cd 11 _ (by omega)).mono ?_
  rintro e w2 ⟨rfl, hg⟩
  go_wp2_with fail
  go_ret
  exact ⟨rfl, ((Mv.gr HH.out HG.out).trans HM.out).trans (Mv.gr HM.out.2.1 hg)⟩
end Go.Proofs.Ytkdphgcbecldbaa
/- The disk: Sync. -/
namespace Go.Proofs.Ytkdphgcbecldbaa
open Go.RowKit
theorem lc_len {e : Nat × List Nat} (h : e.2.length = 256) : (lc e).length = 257 := by unfold lc; rw [List.length_cons, bvs_len, h]
theorem lrow_at : ∀ (ws : List (Nat × List Nat)) (_ : ∀ e, e ∈ ws → e.2.length = 256) (i : Nat) (hi : i < ws.length) (j : Nat), j < 257 → (lrow ws)[i * 257 + j]? = (lc ws[i])[j]?
  | [], _, i, hi, _, _ => by cases hi
  | e :: r, h, i, hi, j, hj => by
    have h0 : (lc e).length = 257 := lc_len (h e (List.mem_cons_self ..))
    have e1 : lrow (e :: r) = lc e ++ lrow r := by unfold lrow; rw [List.map_cons, List.flatten_cons]
    rw [e1]
    cases i with
    | zero => rw [Nat.zero_mul, Nat.zero_add, List.getElem?_append_left (by omega)]; rfl
    | succ i =>
      rw [List.getElem?_append_right (by omega), show (i + 1) * 257 + j - (lc e).length = i * 257 + j by omega]
      rw [lrow_at r (fun e he => h e (List.mem_cons_of_mem _ he)) i (by simpa using hi) j hj]
      rfl
/-- a write that waits, as memory has it -/
theorem Dsk.wait {w : World} {D : Dk} (h : Dsk w D) (hn : 0 < D.ws.length) : ∃ g cap, D.wv = .slice (some ⟨g, 0, none⟩) D.ws.length cap ∧ D.ws.length ≤ cap ∧ ∀ i (hi : i < D.ws.length), w.rangeAt g (i * 257) (lc D.ws[i]) := by
  obtain ⟨hl, ⟨_, h0⟩ | ⟨g, cap, cur, hv, hg, hh, hle, hc1, hc2, hr⟩⟩ := h.own
  · omega
  · refine ⟨g, cap, hv, hle, fun i hi j v hv' => ?_⟩
    have hj : j < 257 := by
      have h1 : j < (lc D.ws[i]).length := (List.getElem?_eq_some_iff.1 hv').1
      rwa [lc_len (h.wsn _ (List.getElem_mem hi)).2.1] at h1
    rw [cell_of_row w g _ _ _ _ hh, ← hv', ← lrow_at D.ws (fun e he => (h.wsn e he).2.1) i hi j hj, ← hr, List.getElem?_take, if_pos (by have : (i + 1) * 257 ≤ D.ws.length * 257 := Nat.mul_le_mul_right _ hi; omega), Array.getElem?_toList]
theorem Dsk.wait_nil {w : World} {D : Dk} (h : Dsk w D) (hn : D.ws = []) : ∃ A cap, D.wv = .slice A 0 cap := by
  obtain ⟨hl, ⟨hv, _⟩ | ⟨g, cap, cur, hv, _⟩⟩ := h.own
  · exact ⟨none, 0, hv⟩
  · rw [hn] at hv; exact ⟨_, cap, hv⟩
end Go.Proofs.Ytkdphgcbecldbaa
/- The disk: Sync. -/
namespace Go.Proofs.Ytkdphgcbecldbaa
open Go.RowKit
attribute [local go_sem ↓] wp_ld95 wp_st95
def Dk.stAll (D : Dk) (es : List (Nat × List Nat)) : Dk := es.foldl (fun D e => D.st e.1 e.2 8) D
theorem stAll_same : ∀ (es : List (Nat × List Nat)) (D : Dk), (D.stAll es).d = D.d ∧ (D.stAll es).k = D.k ∧ (D.stAll es).wv = D.wv ∧ (D.stAll es).ws = D.ws ∧ (D.stAll es).ar = D.ar ∧ (D.stAll es).dn = D.dn ∧ (D.stAll es).tu = D.tu ∧ (D.stAll es).cr = D.cr
  | [], _ => ⟨rfl, rfl, rfl, rfl, rfl, rfl, rfl, rfl⟩
  | e :: r, D => stAll_same r (D.st e.1 e.2 8)
theorem stAll_snoc (es : List (Nat × List Nat)) (e : Nat × List Nat) (D : Dk) : D.stAll (es ++ [e]) = (D.stAll es).st e.1 e.2 8 := by
  unfold Dk.stAll
  rw [List.foldl_append]
  rfl
def Dk.sync (D : Dk) : Dk := { D.turn.stAll D.ws with wv := .slice none 0 0, ws := [] }
theorem lc_one {n : Nat} {l : List Nat} : ∀ u ∈ lc (n, l), u.oneCell' = true := by
  intro u hu
  rcases List.mem_cons.1 hu with rfl | h
  · rfl
  · exact bvs_one _ u h
set_option maxRecDepth 100000 in
set_option maxHeartbeats 1000000 in
theorem sync_some (D : Dk) (w : World) (h : Dsk w D) (hd : D.dn = false) (ha : ¬ D.ar = 1) (hn : 0 < D.ws.length) (hws : D.ws.length ≤ 1000000) :
    Calls Try.prog 27 #[.pointer (some ⟨D.d, 0, none⟩)] w fun r w' => r = .returned (.int .i64 0) ∧ Mv w D w' D.sync := by
  have HH := Lib.hid h
  have Hd := Lib.hid hd
  have HA := Lib.hid ha
  clear h hd ha
  go_enter Try.func27, Try.ntmps27
  go_wp2_with fail
  refine (up_ok D _ HH.out Hd.out).mono ?_
  rintro e w1 ⟨rfl, rfl⟩
  go_wp2_with fail
  refine (turn_yes D _ HH.out HA.out).mono ?_
  rintro e w1 ⟨rfl, hm⟩
  simp only [De.v]
  have h6 : w1.cell? ⟨D.d, 6, none⟩ = some D.wv := hm.2.1.c 6 rfl
  obtain ⟨g, cap, hwv, hcap, hw⟩ := hm.2.1.wait hn
  have hwv' : D.wv = .slice (some ⟨g, 0, none⟩) D.ws.length cap := hwv
  rw [hwv'] at h6
  have HM := Lib.hid hm
  have HW := Lib.hid hwv'
  clear hm hw hwv hwv' hcap
  go_wp2_with fail
  go_loopw [23] (fun i wr => ∃ k : Nat, k ≤ D.ws.length ∧ i = .int .i64 k ∧ Mv w D wr (D.turn.stAll (D.ws.take k))) (fun i _ => D.ws.length - (intOf i).toNat)
  case atStart => exact ⟨0, by omega, rfl, HM.out⟩
  case round =>
    obtain ⟨k, hk, rfl, hmv⟩ := hrel
    have HMV := Lib.hid hmv
    clear hmv
    have HS := Lib.hid (stAll_same (D.ws.take k) D.turn)
    by_cases hkn : k < D.ws.length
    · have hsnoc : D.ws.take (k + 1) = D.ws.take k ++ [D.ws[k]] := by rw [List.take_succ_eq_append_getElem hkn]
      have hEd := HMV.out.2.1
      obtain ⟨s1, s2, s3, s4, s5, s6, s7, s8⟩ := HS.out
      have hE : ∃ E : Dk, E = D.turn.stAll (D.ws.take k) := ⟨_, rfl⟩
      obtain ⟨E, hEe⟩ := hE
      rw [← hEe] at hEd s1 s2 s3 s4
      have hwE : E.wv = .slice (some ⟨g, 0, none⟩) D.ws.length cap := s3.trans HW.out
      have s4' : E.ws = D.ws := s4
      have hkE : k < E.ws.length := by rw [s4']; exact hkn
      obtain ⟨g', cap', hv', hc', hw'⟩ := hEd.wait (by omega)
      have hgc := hv'.symm.trans hwE
      rw [s4'] at hgc
      injection hgc with e1 _ e3
      injection e1 with e1
      injection e1 with e1
      subst e1
      subst e3
      have hx := hw' k hkE
      have hent := hEd.wsn _ (List.getElem_mem hkE)
      have hEq : E.ws[k] = D.ws[k] := by simp only [s4']
      rw [hEq] at hx hent
      generalize D.ws[k] = e0 at *
      obtain ⟨n, l⟩ := e0
      obtain ⟨hn1, hn2, hn3⟩ := hent
      have hlen : (lc (n, l)).length = 257 := lc_len hn2
      have hld := ldv95 hx hlen
      have hst := stv95_new wr (lc (n, l)).toArray (by rw [List.size_toArray]; exact hlen) (all_oneCell_toArray lc_one)
      have hnew := heap_alloc_new wr (.cells (lc (n, l)).toArray 95)
      have hld2 := ldv95 (w := wr.alloc (.cells (lc (n, l)).toArray 95)) (b := wr.heap.size) (o := 0) (cs := lc (n, l)) (fun j v hv => by
        rw [cell_of_row _ _ _ _ _ _ hnew, Nat.zero_add, List.getElem?_toArray]; exact hv) hlen
      have hgr := Gr.at_alloc wr (.cells (lc (n, l)).toArray 95)
      have HST := fun W hW => store_all E n l W hW hn1 hn2 hn3
      have hEE : D.turn.stAll (D.ws.take (k + 1)) = E.st n l 8 := by rw [hsnoc, stAll_snoc, ← hEe]
      have HGR := Lib.hid hgr
      have HED := Lib.hid hEd
      have HEE := Lib.hid hEE
      have HEe := Lib.hid hEe
      have HST := Lib.hid HST
      have hd1 : E.d = D.d := s1
      have Hd1 := Lib.hid hd1
      clear hgr hEd hEE hEe hx hnew hw' hc' hv' hwE hsnoc s1 s2 s3 s4 s4' s5 s6 s7 s8 hEq hd1 hkE
      generalize (lc (n, l)).toArray = X at *
      have b1 : (0 : Int) ≤ (k : Int) := by omega
      have b2 : (k : Int) < (D.ws.length : Int) := by omega
      go_wp2_with fail
      have hc := HST.out _ (HED.out.gr HGR.out)
      rw [Hd1.out] at hc
      refine hc.mono ?_
      rintro e w2 ⟨rfl, hm2⟩
      have HM2 := Lib.hid hm2
      clear hm2 hc
      go_wp2_with fail
      go_roundw
      case rel =>
        refine ⟨k + 1, by omega, by go_num, ?_⟩
        rw [HEE.out]
        have h0 := HMV.out
        rw [← HEe.out] at h0
        exact (h0.trans (Mv.gr h0.2.1 HGR.out)).trans HM2.out
      case measure => simp [intOf]; omega
    · obtain rfl : k = D.ws.length := by omega
      have htk : D.ws.take D.ws.length = D.ws := List.take_length
      have hmv := HMV.out
      rw [htk] at hmv
      have hs := stAll_same D.ws D.turn
      have hd0 : (D.turn.stAll D.ws).d = D.d := hs.1
      have h6 : wr.cell? ⟨D.d, 6, none⟩ = some (D.turn.stAll D.ws).wv := by rw [← hd0]; exact hmv.2.1.c 6 rfl
      have f6 : wr.frozen? ⟨D.d, 6, none⟩ = false := by rw [← hd0]; exact hmv.2.1.f 6 (by omega)
      have hdr : Mv wr (D.turn.stAll D.ws) (wr.setCell ⟨(D.turn.stAll D.ws).d, 6, none⟩ (.slice none 0 0)) D.sync := Mv.drop hmv.2.1
      rw [show (⟨(D.turn.stAll D.ws).d, 6, none⟩ : Addr) = ⟨D.d, 6, none⟩ by rw [hd0]] at hdr
      have HFIN := Lib.hid (hmv.trans hdr)
      clear hmv hs hd0 hdr htk
      generalize (D.turn.stAll D.ws).wv = u6 at *
      go_wp2_with fail
      go_ret
      exact ⟨rfl, HFIN.out⟩
set_option maxRecDepth 100000 in
set_option maxHeartbeats 1000000 in
theorem sync_none (D : Dk) (w : World) (h : Dsk w D) (hd : D.dn = false) (ha : ¬ D.ar = 1) (hn : D.ws = []) :
    Calls Try.prog 27 #[.pointer (some ⟨D.d, 0, none⟩)] w fun r w' => r = .returned (.int .i64 0) ∧ Mv w D w' D.sync := by
  have HH := Lib.hid h
  have Hd := Lib.hid hd
  have HA := Lib.hid ha
  have HN := Lib.hid hn
  clear h hd ha hn
  go_enter Try.func27, Try.ntmps27
  go_wp2_with fail
  refine (up_ok D _ HH.out Hd.out).mono ?_
  rintro e w1 ⟨rfl, rfl⟩
  go_wp2_with fail
  refine (turn_yes D _ HH.out HA.out).mono ?_
  rintro e w1 ⟨rfl, hm⟩
  simp only [De.v]
  have h6 : w1.cell? ⟨D.d, 6, none⟩ = some D.wv := hm.2.1.c 6 rfl
  have f6 : w1.frozen? ⟨D.d, 6, none⟩ = false := hm.2.1.f 6 (by omega)
  obtain ⟨A, cap, hwv⟩ := hm.2.1.wait_nil HN.out
  have hwv' : D.wv = .slice A 0 cap := hwv
  rw [hwv'] at h6
  have hfin : Mv w D (w1.setCell ⟨D.d, 6, none⟩ (.slice none 0 0)) D.sync := by
    have h1 := hm.trans (Mv.drop hm.2.1)
    unfold Dk.sync
    rw [HN.out]
    exact h1
  have HFIN := Lib.hid hfin
  clear hm hwv hwv' hfin
  go_wp2_with fail
  refine wp_loop_rounds 1 ?_
  rw [rounds_succ]
  go_wp2_with fail
  go_ret
  exact ⟨rfl, HFIN.out⟩
theorem sync_ok (D : Dk) (w : World) (h : Dsk w D) (hd : D.dn = false) (ha : ¬ D.ar = 1) (hws : D.ws.length ≤ 1000000) :
    Calls Try.prog 27 #[.pointer (some ⟨D.d, 0, none⟩)] w fun r w' => r = .returned (.int .i64 0) ∧ Mv w D w' D.sync := by
  rcases Nat.eq_zero_or_pos D.ws.length with h0 | h0
  · exact sync_none D w h hd ha (List.eq_nil_of_length_eq_zero h0)
  · exact sync_some D w h hd ha h0 hws
set_option maxRecDepth 100000 in
set_option maxHeartbeats 1000000 in
theorem sync_down (D : Dk) (w : World) (h : Dsk w D) (hd : D.dn = true) :
    Calls Try.prog 27 #[.pointer (some ⟨D.d, 0, none⟩)] w fun r w' => r = .returned (.int .i64 11) ∧ Mv w D w' D := by
  have HH := Lib.hid h
  have Hd := Lib.hid hd
  clear h hd
  go_enter Try.func27, Try.ntmps27
  go_wp2_with fail
  refine (up_no D _ HH.out Hd.out).mono ?_
  rintro e w1 ⟨rfl, rfl⟩
  go_wp2_with fail
  refine (told_cd 11 _ (by omega)).mono ?_
  rintro e w2 ⟨rfl, hg⟩
  go_wp2_with fail
  go_ret
  exact ⟨rfl, Mv.gr HH.out hg⟩
set_option maxRecDepth 100000 in
set_option maxHeartbeats 1000000 in
theorem sync_fall (D : Dk) (w : World) (h : Dsk w D) (hd : D.dn = false) (ha : D.ar = 1) :
    Calls Try.prog 27 #[.pointer (some ⟨D.d, 0, none⟩)] w fun r w' => r = .returned (.int .i64 11) ∧ Mv w D w' D.fall := by
  have HH := Lib.hid h
  have Hd := Lib.hid hd
  have HA := Lib.hid ha
  clear h hd ha
  go_enter Try.func27, Try.ntmps27
  go_wp2_with fail
  refine (up_ok D _ HH.out Hd.out).mono ?_
  rintro e w1 ⟨rfl, rfl⟩
  go_wp2_with fail
  refine (turn_no D _ HH.out HA.out).mono ?_
  rintro e w1 ⟨rfl, hm⟩
  simp only [De.v]
  have HM := Lib.hid hm
  clear hm
  go_wp2_with fail
  refine (told_cd 11 _ (by omega)).mono ?_
  rintro e w2 ⟨rfl, hg⟩
  go_wp2_with fail
  go_ret
  exact ⟨rfl, HM.out.trans (Mv.gr HM.out.2.1 hg)⟩
end Go.Proofs.Ytkdphgcbecldbaa
/- The disk: Crash, Arm, Stored. -/
namespace Go.Proofs.Ytkdphgcbecldbaa
open Go.RowKit
attribute [local go_sem ↓] wp_ld93 wp_st93
set_option maxHeartbeats 1000000 in
theorem crash_ok (D : Dk) (w : World) (h : Dsk w D) (hd : D.dn = false) :
    Calls Try.prog 30 #[.pointer (some ⟨D.d, 0, none⟩)] w fun r w' => r = .returned (.int .i64 0) ∧ Mv w D w' D.fall := by
  have HH := Lib.hid h
  have Hd := Lib.hid hd
  clear h hd
  go_enter Try.func30, Try.ntmps30
  go_wp2_with fail
  refine (up_ok D _ HH.out Hd.out).mono ?_
  rintro e w1 ⟨rfl, rfl⟩
  go_wp2_with fail
  refine (fall_any D _ HH.out).mono ?_
  rintro e w1 ⟨rfl, hm⟩
  have HM := Lib.hid hm
  clear hm
  go_wp2_with fail
  refine (told_ok _).mono ?_
  rintro e w2 ⟨rfl, hg⟩
  go_wp2_with fail
  go_ret
  exact ⟨rfl, HM.out.trans (Mv.gr HM.out.2.1 hg)⟩
set_option maxHeartbeats 1000000 in
theorem crash_down (D : Dk) (w : World) (h : Dsk w D) (hd : D.dn = true) :
    Calls Try.prog 30 #[.pointer (some ⟨D.d, 0, none⟩)] w fun r w' => r = .returned (.int .i64 11) ∧ Mv w D w' D := by
  have HH := Lib.hid h
  have Hd := Lib.hid hd
  clear h hd
  go_enter Try.func30, Try.ntmps30
  go_wp2_with fail
  refine (up_no D _ HH.out Hd.out).mono ?_
  rintro e w1 ⟨rfl, rfl⟩
  go_wp2_with fail
  refine (told_cd 11 _ (by omega)).mono ?_
  rintro e w2 ⟨rfl, hg⟩
  go_wp2_with fail
  go_ret
  exact ⟨rfl, Mv.gr HH.out hg⟩
set_option maxHeartbeats 1000000 in
theorem arm_ok (D : Dk) (n : Int) (w : World) (h : Dsk w D) (hd : D.dn = false) (hn : n ≤ 9223372036854775807) :
    Calls Try.prog 65 #[.pointer (some ⟨D.d, 0, none⟩), .int .i64 n] w fun r w' => r = .returned (.tuple #[]) ∧ Mv w D w' { D with ar := max n 0 } := by
  have HH := Lib.hid h
  have Hd := Lib.hid hd
  have h2 := h.c 2 rfl
  have f2 := h.f 2 (by omega)
  clear h hd
  by_cases h0 : n < 0
  · have hm := Mv.put (D' := { D with ar := max n 0 }) HH.out 2 (.int .i64 0) (by omega) (by rw [show max n 0 = 0 by omega]; rfl) (by simp only; omega) rfl
    have HM := Lib.hid hm
    clear hm
    go_enter Try.func65, Try.ntmps65
    go_wp2_with fail
    refine (up_ok D _ HH.out Hd.out).mono ?_
    rintro e w1 ⟨rfl, rfl⟩
    go_wp2_with fail
    go_end0
    exact ⟨rfl, HM.out⟩
  · have hm := Mv.put (D' := { D with ar := max n 0 }) HH.out 2 (.int .i64 n) (by omega) (by rw [show max n 0 = n by omega]; rfl) (by simp only; omega) rfl
    have HM := Lib.hid hm
    clear hm
    go_enter Try.func65, Try.ntmps65
    go_wp2_with fail
    refine (up_ok D _ HH.out Hd.out).mono ?_
    rintro e w1 ⟨rfl, rfl⟩
    go_wp2_with fail
    go_end0
    exact ⟨rfl, HM.out⟩
set_option maxHeartbeats 1000000 in
theorem arm_down (D : Dk) (n : Int) (w : World) (h : Dsk w D) (hd : D.dn = true) :
    Calls Try.prog 65 #[.pointer (some ⟨D.d, 0, none⟩), .int .i64 n] w fun r w' => r = .returned (.tuple #[]) ∧ Mv w D w' D := by
  have HH := Lib.hid h
  have Hd := Lib.hid hd
  clear h hd
  go_enter Try.func65, Try.ntmps65
  go_wp2_with fail
  refine (up_no D _ HH.out Hd.out).mono ?_
  rintro e w1 ⟨rfl, rfl⟩
  go_wp2_with fail
  go_end0
  exact ⟨rfl, Mv.refl HH.out⟩
theorem z93 : Try.zeroCells93 = Zb := by kernel_rfl
theorem stv93_new (w : World) (cells : Array Value) (hl : cells.size = 256) (h1 : cells.all (·.oneCell') = true) : stv 93 (.pointer (some ⟨w.heap.size, 0, none⟩)) (.agg cells) (w.alloc (.cells Try.zeroCells93 93)) = .ok () (w.alloc (.cells cells 93)) :=
  run_storeAt_new w 93 _ cells (by rw [hl]; exact sz93) (by rw [hl, z93]; unfold Zb; exact Array.size_replicate) h1
set_option maxHeartbeats 1000000 in
theorem stored_ok (D : Dk) (n : Nat) (w : World) (h : Dsk w D) (hn : n < D.k) :
    Calls Try.prog 29 #[.pointer (some ⟨D.d, 0, none⟩), .int .i64 n] w fun r w' => r = .returned (.slice (some ⟨w.heap.size, 0, none⟩) 256 256) ∧ w' = w.alloc (.cells (bvs (D.bl n)).toArray 93) := by
  have HH := Lib.hid h
  have h4 := h.c 4 rfl
  have hlen : (bvs (D.bl n)).length = 256 := by rw [bvs_len]; exact (h.bln n hn).1
  have hld := ldv93 (h.bls n hn) hlen
  have hst := stv93_new w (bvs (D.bl n)).toArray (by rw [List.size_toArray]; exact hlen) (all_oneCell_toArray (bvs_one _))
  generalize (bvs (D.bl n)).toArray = X at *
  clear h hlen
  have b1 : (0 : Int) ≤ (n : Int) := by omega
  have b2 : (n : Int) < (D.k : Int) := by omega
  go_enter Try.func29, Try.ntmps29
  go_wp2_with fail
  refine (there_ok D n _ HH.out (by omega) (by omega)).mono ?_
  rintro e w1 ⟨rfl, rfl⟩
  go_wp2_with fail
  go_ret
  exact ⟨rfl, rfl⟩
set_option maxHeartbeats 1000000 in
theorem stored_no (D : Dk) (n : Int) (w : World) (h : Dsk w D) (hn : n < 0 ∨ (D.k : Int) ≤ n) :
    Calls Try.prog 29 #[.pointer (some ⟨D.d, 0, none⟩), .int .i64 n] w fun r w' => r = .returned (.slice none 0 0) ∧ w = w' := by
  have HH := Lib.hid h
  have HN := Lib.hid hn
  clear h hn
  go_enter Try.func29, Try.ntmps29
  go_wp2_with fail
  refine (there_no D n _ HH.out HN.out).mono ?_
  rintro e w1 ⟨rfl, rfl⟩
  go_wp2_with fail
  go_ret
  exact ⟨rfl, rfl⟩
end Go.Proofs.Ytkdphgcbecldbaa
