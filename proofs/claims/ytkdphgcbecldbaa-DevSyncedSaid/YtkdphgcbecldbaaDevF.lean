/- The disk: contracts split, words for a write that waits. -/
import Derived.Test.YtkdphgcbecldbaaDevE
import Derived.Deep.WholeRow
import Derived.Deep.RegionLaw
import Derived.Laws.CopyOwn
namespace Go.Proofs.Ytkdphgcbecldbaa
open Go.RowKit
theorem up_ok (D : Dk) (w : World) (h : Dsk w D) (hd : D.dn = false) : Calls Try.prog 53 #[.pointer (some ⟨D.d, 0, none⟩)] w fun r w' => r = .returned .nilIface ∧ w = w' := by
  have := up_any D w h
  rwa [show D.up = .ok by simp [Dk.up, hd]] at this
theorem up_no (D : Dk) (w : World) (h : Dsk w D) (hd : D.dn = true) : Calls Try.prog 53 #[.pointer (some ⟨D.d, 0, none⟩)] w fun r w' => r = .returned (.iface 89 (.int .i64 11)) ∧ w = w' := by
  have := up_any D w h
  rwa [show D.up = .cd 11 by simp [Dk.up, hd]] at this
theorem there_ok (D : Dk) (n : Int) (w : World) (h : Dsk w D) (h0 : 0 ≤ n) (h1 : n < D.k) : Calls Try.prog 54 #[.pointer (some ⟨D.d, 0, none⟩), .int .i64 n] w fun r w' => r = .returned .nilIface ∧ w = w' := by
  have := there_any D n w h
  rwa [show D.there n = .ok from if_neg (by omega)] at this
theorem there_no (D : Dk) (n : Int) (w : World) (h : Dsk w D) (h0 : n < 0 ∨ D.k ≤ n) : Calls Try.prog 54 #[.pointer (some ⟨D.d, 0, none⟩), .int .i64 n] w fun r w' => r = .returned (.iface 91 (.agg #[.int .i64 n, .iface 89 (.int .i64 2)])) ∧ w = w' := by
  have := there_any D n w h
  rwa [show D.there n = .at_ n 2 from if_pos h0] at this
theorem first_oo (w : World) (g : Nat) (h : w.heap[g]? = some (.cells #[.nilIface, .nilIface] 70)) : Calls Try.prog 52 #[.slice (some ⟨g, 0, none⟩) 2 2] w fun r w' => r = .returned .nilIface ∧ w = w' :=
  first2_any g .ok .ok w (by rw [cell_of_row _ _ _ _ _ _ h]; rfl) (by rw [cell_of_row _ _ _ _ _ _ h]; rfl)
theorem first_on (w : World) (g : Nat) (n c : Int) (h : w.heap[g]? = some (.cells #[.nilIface, .iface 91 (.agg #[.int .i64 n, .iface 89 (.int .i64 c)])] 70)) : Calls Try.prog 52 #[.slice (some ⟨g, 0, none⟩) 2 2] w fun r w' => r = .returned (.iface 91 (.agg #[.int .i64 n, .iface 89 (.int .i64 c)])) ∧ w = w' :=
  first2_any g .ok (.at_ n c) w (by rw [cell_of_row _ _ _ _ _ _ h]; rfl) (by rw [cell_of_row _ _ _ _ _ _ h]; rfl)
theorem first_no (w : World) (g : Nat) (c : Int) (h : w.heap[g]? = some (.cells #[.iface 89 (.int .i64 c), .nilIface] 70)) : Calls Try.prog 52 #[.slice (some ⟨g, 0, none⟩) 2 2] w fun r w' => r = .returned (.iface 89 (.int .i64 c)) ∧ w = w' :=
  first2_any g (.cd c) .ok w (by rw [cell_of_row _ _ _ _ _ _ h]; rfl) (by rw [cell_of_row _ _ _ _ _ _ h]; rfl)
theorem first_nn (w : World) (g : Nat) (c n c' : Int) (h : w.heap[g]? = some (.cells #[.iface 89 (.int .i64 c), .iface 91 (.agg #[.int .i64 n, .iface 89 (.int .i64 c')])] 70)) : Calls Try.prog 52 #[.slice (some ⟨g, 0, none⟩) 2 2] w fun r w' => r = .returned (.iface 89 (.int .i64 c)) ∧ w = w' :=
  first2_any g (.cd c) (.at_ n c') w (by rw [cell_of_row _ _ _ _ _ _ h]; rfl) (by rw [cell_of_row _ _ _ _ _ _ h]; rfl)
theorem z95 : Try.zeroCells95 = #[.int .i64 0] ++ Zb := by kernel_rfl
theorem info95 : (Try.prog.info? 95).map (fun i => (i.zero, i.size, i.bytes)) = some (some (.agg (#[.int .i64 0] ++ Zb)), 257, 264) := by kernel_rfl
theorem store95 (W : World) (n : Int) : (storeCells ⟨W.heap.size, 0, none⟩ (Try.zeroCells95.toList.set 0 (.int .i64 n))).run Try.prog (W.alloc (.cells Try.zeroCells95 95)) = .ok () (W.alloc (.cells (#[.int .i64 n] ++ Zb) 95)) := by
  have hs : (#[Value.int .i64 n] ++ Zb).size = 257 := by simp [Zb]
  have h := run_storeCells_new (P := Try.prog) W 95 (#[.int .i64 0] ++ Zb) (#[.int .i64 n] ++ Zb) (by rw [hs]; kernel_rfl) (by simp) (by kernel_rfl)
  rw [z95]
  have e : (#[Value.int .i64 0] ++ Zb).toList.set 0 (.int .i64 n) = (#[Value.int .i64 n] ++ Zb).toList := by simp
  rw [e]
  exact h
/-- bytes of a block -/
def pad (l : List Nat) : List Nat := l ++ Z (256 - l.length)
theorem pad_len {l : List Nat} (h : l.length ≤ 256) : (pad l).length = 256 := by unfold pad; rw [List.length_append, Z_len]; omega
theorem small_pad {l : List Nat} (h : Small l) : Small (pad l) := fun x hx => by
  rcases List.mem_append.1 hx with h1 | h1
  · exact h x h1
  · rw [(List.mem_replicate.1 h1).2]; decide
theorem size5 : (Try.prog.info? 5).map (·.size) = some 1 := by kernel_rfl
theorem bvs_len (l : List Nat) : (bvs l).length = l.length := by simp [bvs]
theorem bvs_Z (n : Nat) : bvs (Z n) = List.replicate n (.int .u8 0) := by unfold bvs Z; rw [List.map_replicate]; rfl
theorem splice_pad (n : Nat) (l : List Nat) : splice (.int .i64 (n : Int) :: bvs (Z 256)) 1 (bvs l) = lc (n, pad l) := by
  unfold splice lc pad
  rw [bvs_len]
  have e : bvs (l ++ Z (256 - l.length)) = bvs l ++ bvs (Z (256 - l.length)) := by unfold bvs; rw [List.map_append]
  rw [e]
  have e2 : (Value.int .i64 (n : Int) :: bvs (Z 256)).drop (1 + l.length) = bvs (Z (256 - l.length)) := by
    rw [Nat.add_comm, List.drop_succ_cons, bvs_Z, bvs_Z, List.drop_replicate]
  rw [e2, List.take_succ_cons, List.take_zero]
  rfl
theorem Zb_list (n : Nat) : (#[Value.int .i64 (n : Int)] ++ Zb) = (.int .i64 (n : Int) :: bvs (Z 256)).toArray := by
  apply Array.ext'
  rw [bvs_Z]
  unfold Zb
  rw [Array.toList_append, Array.toList_replicate]
  rfl
theorem fold_fill : ∀ (L : List Value) (k : Nat) (cells : Array Value), k + L.length ≤ cells.size → ∀ i, ((L.zipIdx k).foldl (fun (cs : Array Value) (p : Value × Nat) => cs.setIfInBounds (0 + p.2) p.1) cells)[i]? = if k ≤ i ∧ i < k + L.length then L[i - k]? else cells[i]?
  | [], k, cells, _, i => by
    rw [if_neg (by simp)]
    rfl
  | v :: r, k, cells, h, i => by
    have hl : k + (r.length + 1) ≤ cells.size := h
    rw [List.zipIdx_cons, List.foldl_cons, fold_fill r (k + 1) _ (by rw [Array.size_setIfInBounds]; omega) i]
    rw [List.length_cons]
    by_cases h1 : i = k
    · subst h1
      rw [if_neg (by omega), if_pos (by omega), Nat.sub_self, Nat.zero_add, Array.getElem?_setIfInBounds_self_of_lt (by omega)]
      rfl
    · by_cases h2 : k + 1 ≤ i ∧ i < k + 1 + r.length
      · rw [if_pos h2, if_pos (by omega), show i - k = (i - (k + 1)) + 1 by omega]
        rfl
      · rw [if_neg h2, if_neg (by omega), Nat.zero_add, Array.getElem?_setIfInBounds_ne (by omega)]
theorem fill_one (X base : Array Value) (s : Nat) (hX : X.size = s) (hb : base.size = s) : Instr.fill (fun i => some (i * s, s)) base [(0, .agg X)] = some X := by
  unfold Instr.fill
  have e : (Value.agg X).cells = X := rfl
  simp only [e, hX, hb, Nat.zero_mul, Nat.zero_add, ne_eq, not_true_eq_false, decide_false, Bool.false_or, gt_iff_lt, Nat.lt_irrefl, Bool.false_eq_true, if_false]
  unfold Instr.fill
  congr 1
  apply Array.ext_getElem?
  intro i
  rw [← Array.foldl_toList, Array.toList_zipIdx]
  have h := fold_fill X.toList 0 base (by rw [Array.length_toList]; omega) i
  simp only [Nat.zero_add] at h
  rw [h, Array.length_toList]
  by_cases hi : i < X.size
  · rw [if_pos ⟨Nat.zero_le _, hi⟩, Nat.sub_zero, Array.getElem?_toList]
  · rw [if_neg (by omega), Array.getElem?_eq_none (by omega), Array.getElem?_eq_none (by omega)]
end Go.Proofs.Ytkdphgcbecldbaa
