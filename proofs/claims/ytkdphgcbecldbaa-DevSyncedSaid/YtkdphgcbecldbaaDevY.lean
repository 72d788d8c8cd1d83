/- The disk: Stat. -/
import Derived.Test.YtkdphgcbecldbaaDevP
namespace Go.Proofs.Ytkdphgcbecldbaa
open Go.RowKit
theorem Dsk.wvs {w : World} {D : Dk} (h : Dsk w D) : ∃ A cap, D.wv = .slice A D.ws.length cap := by
  rcases Nat.eq_zero_or_pos D.ws.length with h0 | h0
  · obtain ⟨A, cap, e⟩ := h.wait_nil (List.eq_nil_of_length_eq_zero h0)
    exact ⟨A, cap, by rw [h0]; exact e⟩
  · obtain ⟨g, cap, e, _⟩ := h.wait h0
    exact ⟨_, cap, e⟩
def Dk.hurts (D : Dk) (i : Nat) : Nat := ((List.range i).filter D.hu).length
theorem hurts_succ (D : Dk) (i : Nat) : D.hurts (i + 1) = D.hurts i + if D.hu i = true then 1 else 0 := by
  unfold Dk.hurts
  rw [List.range_succ, List.filter_append, List.length_append]
  by_cases h : D.hu i = true
  · rw [if_pos h, List.filter_cons_of_pos h]; rfl
  · rw [if_neg h, List.filter_cons_of_neg h]; rfl
theorem hurts_le (D : Dk) (i : Nat) : D.hurts i ≤ i := by
  induction i with
  | zero => exact Nat.le_refl _
  | succ i ih => rw [hurts_succ]; split <;> omega
theorem stat_cells {wr : World} {b : Nat} {z0 z1 z2 z3 z4 z5 : Value} (hs : wr.heap[b]? = some (.cells #[z0, z1, z2, z3, z4, z5] 50 (0, 0))) (v0 v1 v3 v4 v5 : Value) :
    (((((wr.setCell ⟨b, 0, none⟩ v0).setCell ⟨b, 1, none⟩ v1).setCell ⟨b, 3, none⟩ v3).setCell ⟨b, 4, none⟩ v4).setCell ⟨b, 5, none⟩ v5).drew.heap[b]? = some (.cells #[v0, v1, z2, v3, v4, v5] 50 (0, 0)) := by
  simp [World.setCell, World.drew, Array.getElem?_modify, hs]
theorem stat_cells6 {wr : World} {b : Nat} {z0 z1 z2 z3 z4 z5 : Value} (hs : wr.heap[b]? = some (.cells #[z0, z1, z2, z3, z4, z5] 50 (0, 0))) (v0 v1 v2 v3 v4 v5 : Value) :
    ((((((wr.setCell ⟨b, 0, none⟩ v0).setCell ⟨b, 1, none⟩ v1).setCell ⟨b, 2, none⟩ v2).setCell ⟨b, 3, none⟩ v3).setCell ⟨b, 4, none⟩ v4).setCell ⟨b, 5, none⟩ v5).heap[b]? = some (.cells #[v0, v1, v2, v3, v4, v5] 50 (0, 0)) := by
  simp [World.setCell, Array.getElem?_modify, hs]
theorem results_cell {fn : Func} {t : Tmp} {ty : TypeId} {v : Value} {tmps : Array Value} {P : Program} {w : World} {b : Nat} (h : fn.results = #[.cell t ty]) (ht : tmps.getD t undef = .pointer (some ⟨b, 0, none⟩))
    (hl : (loadVar ty ⟨b, 0, none⟩).run P w = .ok v w) : (results fn tmps).run P w = .ok v w := by
  rw [Array.getD_eq_getD_getElem?] at ht
  simp [results, h, asAddr, ht, hl]
def Dk.stat (D : Dk) : Value := .agg #[.int .i64 D.k, .int .i64 D.ws.length, .int .i64 (D.hurts D.k), .int .i64 D.tu, .int .i64 D.cr, .bool D.dn]
set_option maxRecDepth 100000 in
set_option maxHeartbeats 2000000 in
theorem stat_ok (D : Dk) (w : World) (h : Dsk w D) :
    Calls Try.prog 28 #[.pointer (some ⟨D.d, 0, none⟩)] w fun r w' => r = .returned D.stat ∧ Gr w w' := by
  have HH := Lib.hid h
  have hk1 := h.kpos
  have hk2 := h.kle
  have h5 := h.c 5 rfl
  have hh : ∀ i, i < D.k → w.cell? ⟨D.hb, i, none⟩ = some (.bool (D.hu i)) := h.hus
  have HU := Lib.hid hh
  have hsz : D.hb < w.heap.size := h.fp_lt (.inr (.inr (.inl rfl)))
  have hsd : D.d < w.heap.size := h.fp_lt (.inl rfl)
  clear h hh
  go_enter Try.func28, Try.ntmps28
  go_wp2_with fail
  go_loopw [13] (fun i wr => ∃ k : Nat, k ≤ D.k ∧ i = .int .i64 k ∧ Hid (Gr w wr) ∧ wr.heap[w.heap.size]? = some (.cells #[.int .i64 0, .int .i64 0, .int .i64 (D.hurts k), .int .i64 0, .int .i64 0, .bool false] 50 (0, 0))) (fun i _ => D.k - (intOf i).toNat)
  case atStart => exact ⟨0, by omega, rfl, (Below.alloc (Below.refl _ _) (Nat.le_refl _) _), by rw [heap_alloc_new]; rfl⟩
  case round =>
    obtain ⟨k, hk, rfl, HG, hs⟩ := hrel
    by_cases hlt : k < D.k
    · have hc : wr.cell? ⟨D.hb, k, none⟩ = some (.bool (D.hu k)) := (HG.out.cell (p := ⟨D.hb, k, none⟩) hsz).trans (HU.out k hlt)
      have hH := hurts_succ D k
      have hle := hurts_le D k
      have s2 : wr.cell? ⟨w.heap.size, 2, none⟩ = some (.int .i64 (D.hurts k)) := cell_of_row _ _ _ _ _ _ hs
      have f2 : wr.frozen? ⟨w.heap.size, 2, none⟩ = false := by simp [World.frozen?, hs]
      have HS := Lib.hid hs
      clear hs
      have b1 : (0 : Int) ≤ (k : Int) := by omega
      have b2 : (k : Int) < (D.k : Int) := by omega
      cases hu : D.hu k with
      | true =>
        rw [hu] at hc hH
        simp only [if_true] at hH
        go_wp2_with fail
        go_roundw
        case rel =>
          refine ⟨k + 1, by omega, by go_num, HG.out.setCell (p := ⟨w.heap.size, 2, none⟩) (Nat.le_refl _) _, ?_⟩
          rw [hH]
          have := HS.out
          simp [World.setCell, Array.getElem?_modify, this]
        case measure => simp [intOf]; omega
      | false =>
        rw [hu] at hc hH
        simp only [Bool.false_eq_true, if_false, Nat.add_zero] at hH
        go_wp2_with fail
        go_roundw
        case rel =>
          refine ⟨k + 1, by omega, by go_num, HG.out, ?_⟩
          rw [hH]
          exact HS.out
        case measure => simp [intOf]; omega
    · obtain rfl : k = D.k := by omega
      have hD := HH.out.gr HG.out
      have c0 := hD.c 0 rfl
      have c1 := hD.c 1 rfl
      have c3 := hD.c 3 rfl
      have c4 := hD.c 4 rfl
      have c6 := hD.c 6 rfl
      obtain ⟨A, cap, hwv⟩ := hD.wvs
      rw [hwv] at c6
      have r : ∀ j (v : Value), (#[Value.int .i64 0, .int .i64 0, .int .i64 (D.hurts D.k), .int .i64 0, .int .i64 0, .bool false])[j]? = some v → wr.cell? ⟨w.heap.size, j, none⟩ = some v := fun j v hv => by
        rw [cell_of_row _ _ _ _ _ _ hs]; exact hv
      have r0 := r 0 _ rfl
      have r1 := r 1 _ rfl
      have r2 := r 2 _ rfl
      have r3 := r 3 _ rfl
      have r4 := r 4 _ rfl
      have r5 := r 5 _ rfl
      have f0 : ∀ j, wr.frozen? ⟨w.heap.size, j, none⟩ = false := fun j => by simp [World.frozen?, hs]
      have HS := Lib.hid hs
      clear hs r hD hwv
      go_wp2_with fail
      go_region
      all_goals (
        have hW := stat_cells HS.out (.int .i64 D.k) (.int .i64 D.ws.length) (.int .i64 D.tu) (.int .i64 D.cr) (.bool D.dn)
        have hG : Gr w (((((wr.setCell ⟨w.heap.size, 0, none⟩ (.int .i64 D.k)).setCell ⟨w.heap.size, 1, none⟩ (.int .i64 D.ws.length)).setCell ⟨w.heap.size, 3, none⟩ (.int .i64 D.tu)).setCell ⟨w.heap.size, 4, none⟩ (.int .i64 D.cr)).setCell ⟨w.heap.size, 5, none⟩ (.bool D.dn)).drew :=
          (((((HG.out.setCell (p := ⟨w.heap.size, 0, none⟩) (Nat.le_refl _) _).setCell (p := ⟨w.heap.size, 1, none⟩) (Nat.le_refl _) _).setCell (p := ⟨w.heap.size, 3, none⟩) (Nat.le_refl _) _).setCell (p := ⟨w.heap.size, 4, none⟩) (Nat.le_refl _) _).setCell (p := ⟨w.heap.size, 5, none⟩) (Nat.le_refl _) _).drew
        have HG5 := Lib.hid hG
        clear hG
        generalize (((((wr.setCell ⟨w.heap.size, 0, none⟩ (.int .i64 D.k)).setCell ⟨w.heap.size, 1, none⟩ (.int .i64 D.ws.length)).setCell ⟨w.heap.size, 3, none⟩ (.int .i64 D.tu)).setCell ⟨w.heap.size, 4, none⟩ (.int .i64 D.cr)).setCell ⟨w.heap.size, 5, none⟩ (.bool D.dn)).drew = W5 at *
        clear r0 r1 r2 r3 r4 r5 f0 c0 c1 c3 c4 c6
        have r : ∀ j (v : Value), (#[Value.int .i64 D.k, .int .i64 D.ws.length, .int .i64 (D.hurts D.k), .int .i64 D.tu, .int .i64 D.cr, .bool D.dn])[j]? = some v → W5.cell? ⟨w.heap.size, j, none⟩ = some v := fun j v hv => by
          rw [cell_of_row _ _ _ _ _ _ hW]; exact hv
        have r0 : W5.cell? ⟨w.heap.size, 0, none⟩ = some (Value.int .i64 D.k) := r 0 _ rfl
        have r1 : W5.cell? ⟨w.heap.size, 1, none⟩ = some (Value.int .i64 D.ws.length) := r 1 _ rfl
        have r2 : W5.cell? ⟨w.heap.size, 2, none⟩ = some (Value.int .i64 (D.hurts D.k)) := r 2 _ rfl
        have r3 : W5.cell? ⟨w.heap.size, 3, none⟩ = some (Value.int .i64 D.tu) := r 3 _ rfl
        have r4 : W5.cell? ⟨w.heap.size, 4, none⟩ = some (Value.int .i64 D.cr) := r 4 _ rfl
        have r5 : W5.cell? ⟨w.heap.size, 5, none⟩ = some (Value.bool D.dn) := r 5 _ rfl
        have f0 : ∀ j, W5.frozen? ⟨w.heap.size, j, none⟩ = false := fun j => by simp [World.frozen?, hW]
        have HW5 := Lib.hid hW
        clear r hW
        go_wp2_with fail
        refine bodyPost_ret (v := D.stat) (results_cell (b := w.heap.size) rfl rfl ?_) rfl ⟨rfl, ?_⟩
        · exact run_loadVar_row _ w.heap.size 50 50 _ _ _ (stat_cells6 HW5.out _ _ _ _ _ _) Try.underlying50 rfl (by kernel_rfl)
        · exact (((((HG5.out.setCell (p := ⟨w.heap.size, 0, none⟩) (Nat.le_refl _) _).setCell (p := ⟨w.heap.size, 1, none⟩) (Nat.le_refl _) _).setCell (p := ⟨w.heap.size, 2, none⟩) (Nat.le_refl _) _).setCell (p := ⟨w.heap.size, 3, none⟩) (Nat.le_refl _) _).setCell (p := ⟨w.heap.size, 4, none⟩) (Nat.le_refl _) _).setCell (p := ⟨w.heap.size, 5, none⟩) (Nat.le_refl _) _)
end Go.Proofs.Ytkdphgcbecldbaa
