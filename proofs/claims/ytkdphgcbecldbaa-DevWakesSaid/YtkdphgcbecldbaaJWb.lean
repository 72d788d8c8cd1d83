/- Texts of the proof, one behind the other: WkB, WkC. -/
import Derived.Test.YtkdphgcbecldbaaJr
/- No disk: a nil one, one of no blocks: what each deed tells (for the law's none, 42). -/
namespace Go.Proofs.Ytkdphgcbecldbaa
open Go.RowKit
def Z85 : Array Value := #[.int .i64 0, .int .i64 0, .int .i64 0, .bool false, .slice none 0 0, .slice none 0 0, .slice none 0 0]
/-- no disk -/
def No (w : World) (v : Value) : Prop := v = .pointer none ∨ ∃ b, v = .pointer (some ⟨b, 0, none⟩) ∧ w.heap[b]? = some (.cells Z85 85 (0, 0))
theorem No.gr {w w' : World} {v : Value} (h : No w v) (hg : Gr w w') : No w' v := h.imp id (fun ⟨b, e, hc⟩ => ⟨b, e, gr_cells hc hg⟩)
set_option maxRecDepth 100000 in
set_option maxHeartbeats 1000000 in
theorem no_up (v : Value) (w : World) (h : No w v) : Calls Try.prog 53 #[v] w fun r w' => r = .returned (.iface 89 (.int .i64 1)) ∧ w = w' := by
  rcases h with rfl | ⟨b, rfl, hb⟩
  · go_enter Try.func53, Try.ntmps53
    go_wp2_with fail
    go_ret
    exact ⟨rfl, rfl⟩
  · have h4 : w.cell? ⟨b, 4, none⟩ = some (.slice none 0 0) := cell_of_row _ _ _ _ _ _ hb
    clear hb
    go_enter Try.func53, Try.ntmps53
    go_wp2_with fail
    go_ret
    exact ⟨rfl, rfl⟩
set_option maxRecDepth 100000 in
set_option maxHeartbeats 1000000 in
theorem no_there (v : Value) (n : Int) (w : World) (h : No w v) : Calls Try.prog 54 #[v, .int .i64 n] w fun r w' => r = .returned (.iface 91 (.agg #[.int .i64 n, .iface 89 (.int .i64 1)])) ∧ w = w' := by
  rcases h with rfl | ⟨b, rfl, hb⟩
  · go_enter Try.func54, Try.ntmps54
    go_wp2_with fail
    go_ret
    exact ⟨rfl, rfl⟩
  · have h4 : w.cell? ⟨b, 4, none⟩ = some (.slice none 0 0) := cell_of_row _ _ _ _ _ _ hb
    clear hb
    go_enter Try.func54, Try.ntmps54
    go_wp2_with fail
    go_ret
    exact ⟨rfl, rfl⟩
set_option maxRecDepth 100000 in
set_option maxHeartbeats 1000000 in
theorem no_write (v : Value) (n : Int) (s : Value) (w : World) (h : No w v) : Calls Try.prog 26 #[v, .int .i64 n, s] w fun r w' => r = .returned (.int .i64 1) ∧ Gr w w' := by
  have HU := Lib.hid (no_up v w h)
  have HT := Lib.hid (no_there v n w h)
  clear h
  go_enter Try.func26, Try.ntmps26
  go_wp2_with fail
  refine HU.out.mono ?_
  rintro e w1 ⟨rfl, rfl⟩
  go_wp2_with fail
  refine HT.out.mono ?_
  rintro e w1 ⟨rfl, rfl⟩
  go_wp2_with fail
  refine (first_nn _ _ 1 n 1 (heap_alloc_new w _)).mono ?_
  rintro e w1 ⟨rfl, rfl⟩
  have HG := Lib.hid (Gr.at_alloc w (.cells #[.iface 89 (.int .i64 1), .iface 91 (.agg #[.int .i64 n, .iface 89 (.int .i64 1)])] 70))
  generalize w.alloc (.cells #[.iface 89 (.int .i64 1), .iface 91 (.agg #[.int .i64 n, .iface 89 (.int .i64 1)])] 70) = W at *
  go_wp2_with fail
  refine (told_cd 1 _ (by omega)).mono ?_
  rintro e w2 ⟨rfl, hg⟩
  go_wp2_with fail
  go_ret
  exact ⟨rfl, Gr.step hg HG.out⟩
set_option maxRecDepth 100000 in
set_option maxHeartbeats 1000000 in
theorem no_read (v : Value) (n : Int) (w : World) (h : No w v) : Calls Try.prog 32 #[v, .int .i64 n] w fun r w' => r = .returned (.tuple #[.slice none 0 0, .int .i64 1]) ∧ Gr w w' := by
  have HU := Lib.hid (no_up v w h)
  have HT := Lib.hid (no_there v n w h)
  clear h
  go_enter Try.func32, Try.ntmps32
  go_wp2_with fail
  refine HU.out.mono ?_
  rintro e w1 ⟨rfl, rfl⟩
  go_wp2_with fail
  refine HT.out.mono ?_
  rintro e w1 ⟨rfl, rfl⟩
  go_wp2_with fail
  refine (first_nn _ _ 1 n 1 (heap_alloc_new w _)).mono ?_
  rintro e w1 ⟨rfl, rfl⟩
  have HG := Lib.hid (Gr.at_alloc w (.cells #[.iface 89 (.int .i64 1), .iface 91 (.agg #[.int .i64 n, .iface 89 (.int .i64 1)])] 70))
  generalize w.alloc (.cells #[.iface 89 (.int .i64 1), .iface 91 (.agg #[.int .i64 n, .iface 89 (.int .i64 1)])] 70) = W at *
  go_wp2_with fail
  refine (told_cd 1 _ (by omega)).mono ?_
  rintro e w2 ⟨rfl, hg⟩
  go_wp2_with fail
  refine bodyPost_ret (results_tmp2 rfl _ _ _) rfl ?_
  exact ⟨rfl, Gr.step hg HG.out⟩
set_option maxRecDepth 100000 in
set_option maxHeartbeats 1000000 in
theorem no_sync (v : Value) (w : World) (h : No w v) : Calls Try.prog 27 #[v] w fun r w' => r = .returned (.int .i64 1) ∧ Gr w w' := by
  have HU := Lib.hid (no_up v w h)
  clear h
  go_enter Try.func27, Try.ntmps27
  go_wp2_with fail
  refine HU.out.mono ?_
  rintro e w1 ⟨rfl, rfl⟩
  go_wp2_with fail
  refine (told_cd 1 _ (by omega)).mono ?_
  rintro e w2 ⟨rfl, hg⟩
  have HG := Lib.hid hg
  clear hg
  go_wp2_with fail
  go_ret
  exact ⟨rfl, HG.out⟩
set_option maxRecDepth 100000 in
set_option maxHeartbeats 1000000 in
theorem no_crash (v : Value) (w : World) (h : No w v) : Calls Try.prog 30 #[v] w fun r w' => r = .returned (.int .i64 1) ∧ Gr w w' := by
  have HU := Lib.hid (no_up v w h)
  clear h
  go_enter Try.func30, Try.ntmps30
  go_wp2_with fail
  refine HU.out.mono ?_
  rintro e w1 ⟨rfl, rfl⟩
  go_wp2_with fail
  refine (told_cd 1 _ (by omega)).mono ?_
  rintro e w2 ⟨rfl, hg⟩
  have HG := Lib.hid hg
  clear hg
  go_wp2_with fail
  go_ret
  exact ⟨rfl, HG.out⟩
set_option maxRecDepth 100000 in
set_option maxHeartbeats 1000000 in
theorem no_arm (v : Value) (n : Int) (w : World) (h : No w v) : Calls Try.prog 65 #[v, .int .i64 n] w fun r w' => r = .returned (.tuple #[]) ∧ w = w' := by
  have HU := Lib.hid (no_up v w h)
  clear h
  go_enter Try.func65, Try.ntmps65
  go_wp2_with fail
  refine HU.out.mono ?_
  rintro e w1 ⟨rfl, rfl⟩
  go_wp2_with fail
  go_end0
  exact ⟨rfl, rfl⟩
set_option maxRecDepth 100000 in
set_option maxHeartbeats 1000000 in
theorem no_wake (v : Value) (a b c : Int) (w : World) (h : No w v) : Calls Try.prog 31 #[v, .int .i64 a, .int .i64 b, .int .i64 c] w fun r w' => r = .returned (.int .i64 1) ∧ Gr w w' := by
  have HU := Lib.hid (no_up v w h)
  clear h
  go_enter Try.func31, Try.ntmps31
  go_wp2_with fail
  refine HU.out.mono ?_
  rintro e w1 ⟨rfl, rfl⟩
  go_wp2_with fail
  refine (told_cd 1 _ (by omega)).mono ?_
  rintro e w2 ⟨rfl, hg⟩
  have HG := Lib.hid hg
  clear hg
  go_wp2_with fail
  go_ret
  exact ⟨rfl, HG.out⟩
set_option maxRecDepth 100000 in
set_option maxHeartbeats 1000000 in
theorem no_stored (v : Value) (n : Int) (w : World) (h : No w v) : Calls Try.prog 29 #[v, .int .i64 n] w fun r w' => r = .returned (.slice none 0 0) ∧ w = w' := by
  have HT := Lib.hid (no_there v n w h)
  clear h
  go_enter Try.func29, Try.ntmps29
  go_wp2_with fail
  refine HT.out.mono ?_
  rintro e w1 ⟨rfl, rfl⟩
  go_wp2_with fail
  go_ret
  exact ⟨rfl, rfl⟩
set_option maxRecDepth 100000 in
set_option maxHeartbeats 1000000 in
theorem no_rot (v : Value) (n a m : Int) (w : World) (h : No w v) : Calls Try.prog 35 #[v, .int .i64 n, .int .i64 a, .int .u32 m] w fun r w' => r = .returned (.int .i64 1) ∧ Gr w w' := by
  have HT := Lib.hid (no_there v n w h)
  clear h
  go_enter Try.func35, Try.ntmps35
  go_wp2_with fail
  refine HT.out.mono ?_
  rintro e w1 ⟨rfl, rfl⟩
  go_wp2_with fail
  refine (told_at n 1 _ (by omega)).mono ?_
  rintro e w2 ⟨rfl, hg⟩
  have HG := Lib.hid hg
  clear hg
  go_wp2_with fail
  go_ret
  exact ⟨rfl, HG.out⟩
set_option maxRecDepth 100000 in
set_option maxHeartbeats 1000000 in
theorem no_wipe (v : Value) (n : Int) (w : World) (h : No w v) : Calls Try.prog 36 #[v, .int .i64 n] w fun r w' => r = .returned (.int .i64 1) ∧ Gr w w' := by
  have HT := Lib.hid (no_there v n w h)
  clear h
  go_enter Try.func36, Try.ntmps36
  go_wp2_with fail
  refine HT.out.mono ?_
  rintro e w1 ⟨rfl, rfl⟩
  go_wp2_with fail
  refine (told_at n 1 _ (by omega)).mono ?_
  rintro e w2 ⟨rfl, hg⟩
  have HG := Lib.hid hg
  clear hg
  go_wp2_with fail
  go_ret
  exact ⟨rfl, HG.out⟩
def stat0 : Value := .agg #[.int .i64 0, .int .i64 0, .int .i64 0, .int .i64 0, .int .i64 0, .bool false]
set_option maxRecDepth 100000 in
set_option maxHeartbeats 2000000 in
theorem no_stat (v : Value) (w : World) (h : No w v) : Calls Try.prog 28 #[v] w fun r w' => r = .returned stat0 ∧ Gr w w' := by
  rcases h with rfl | ⟨b, rfl, hb⟩
  · have HG := Lib.hid (Gr.at_alloc w (.cells #[.int .i64 0, .int .i64 0, .int .i64 0, .int .i64 0, .int .i64 0, .bool false] 50))
    go_enter Try.func28, Try.ntmps28
    go_wp2_with fail
    refine bodyPost_ret (v := stat0) (results_cell (b := w.heap.size) rfl rfl ?_) rfl ⟨rfl, HG.out⟩
    exact run_loadVar_row _ w.heap.size 50 50 _ _ _ (heap_alloc_new w _) Try.underlying50 rfl (by kernel_rfl)
  · have hbl : b < w.heap.size := lt_of_heap hb
    have HB := Lib.hid hb
    have HG0 := Lib.hid (Gr.at_alloc w (.cells #[.int .i64 0, .int .i64 0, .int .i64 0, .int .i64 0, .int .i64 0, .bool false] 50))
    have h5 : w.cell? ⟨b, 5, none⟩ = some (.slice none 0 0) := cell_of_row _ _ _ _ _ _ hb
    clear hb
    go_enter Try.func28, Try.ntmps28
    go_wp2_with fail
    go_loopw [13] (fun i wr => i = .int .i64 0 ∧ wr = w.alloc (.cells #[.int .i64 0, .int .i64 0, .int .i64 0, .int .i64 0, .int .i64 0, .bool false] 50)) (fun _ _ => 0)
    case atStart => exact ⟨rfl, rfl⟩
    case round =>
      obtain ⟨rfl, rfl⟩ := hrel
      have hs := heap_alloc_new w (.cells #[.int .i64 0, .int .i64 0, .int .i64 0, .int .i64 0, .int .i64 0, .bool false] 50)
      have hbw := gr_cells HB.out HG0.out
      have HS := Lib.hid hs
      generalize w.alloc (.cells #[.int .i64 0, .int .i64 0, .int .i64 0, .int .i64 0, .int .i64 0, .bool false] 50) = wr at *
      have c0 : wr.cell? ⟨b, 0, none⟩ = some (.int .i64 0) := cell_of_row _ _ _ _ _ _ hbw
      have c1 : wr.cell? ⟨b, 1, none⟩ = some (.int .i64 0) := cell_of_row _ _ _ _ _ _ hbw
      have c3 : wr.cell? ⟨b, 3, none⟩ = some (.bool false) := cell_of_row _ _ _ _ _ _ hbw
      have c4 : wr.cell? ⟨b, 4, none⟩ = some (.slice none 0 0) := cell_of_row _ _ _ _ _ _ hbw
      have c6 : wr.cell? ⟨b, 6, none⟩ = some (.slice none 0 0) := cell_of_row _ _ _ _ _ _ hbw
      have r0 : wr.cell? ⟨w.heap.size, 0, none⟩ = some (.int .i64 0) := cell_of_row _ _ _ _ _ _ hs
      have r1 : wr.cell? ⟨w.heap.size, 1, none⟩ = some (.int .i64 0) := cell_of_row _ _ _ _ _ _ hs
      have r2 : wr.cell? ⟨w.heap.size, 2, none⟩ = some (.int .i64 0) := cell_of_row _ _ _ _ _ _ hs
      have r3 : wr.cell? ⟨w.heap.size, 3, none⟩ = some (.int .i64 0) := cell_of_row _ _ _ _ _ _ hs
      have r4 : wr.cell? ⟨w.heap.size, 4, none⟩ = some (.int .i64 0) := cell_of_row _ _ _ _ _ _ hs
      have r5 : wr.cell? ⟨w.heap.size, 5, none⟩ = some (.bool false) := cell_of_row _ _ _ _ _ _ hs
      have f0 : ∀ j, wr.frozen? ⟨w.heap.size, j, none⟩ = false := fun j => by simp [World.frozen?, hs]
      have HG := Lib.hid HG0.out
      clear hs hbw HG0
      go_wp2_with fail
      go_region
      all_goals (
        have hW := stat_cells HS.out (.int .i64 0) (.int .i64 0) (.int .i64 0) (.int .i64 0) (.bool false)
        have hG : Gr w (((((wr.setCell ⟨w.heap.size, 0, none⟩ (.int .i64 0)).setCell ⟨w.heap.size, 1, none⟩ (.int .i64 0)).setCell ⟨w.heap.size, 3, none⟩ (.int .i64 0)).setCell ⟨w.heap.size, 4, none⟩ (.int .i64 0)).setCell ⟨w.heap.size, 5, none⟩ (.bool false)).drew :=
          (((((HG.out.setCell (p := ⟨w.heap.size, 0, none⟩) (Nat.le_refl _) _).setCell (p := ⟨w.heap.size, 1, none⟩) (Nat.le_refl _) _).setCell (p := ⟨w.heap.size, 3, none⟩) (Nat.le_refl _) _).setCell (p := ⟨w.heap.size, 4, none⟩) (Nat.le_refl _) _).setCell (p := ⟨w.heap.size, 5, none⟩) (Nat.le_refl _) _).drew
        have HG5 := Lib.hid hG
        clear hG
        generalize (((((wr.setCell ⟨w.heap.size, 0, none⟩ (.int .i64 0)).setCell ⟨w.heap.size, 1, none⟩ (.int .i64 0)).setCell ⟨w.heap.size, 3, none⟩ (.int .i64 0)).setCell ⟨w.heap.size, 4, none⟩ (.int .i64 0)).setCell ⟨w.heap.size, 5, none⟩ (.bool false)).drew = W5 at *
        clear r0 r1 r2 r3 r4 r5 f0 c0 c1 c3 c4 c6
        have r : ∀ j (v : Value), (#[Value.int .i64 0, .int .i64 0, .int .i64 0, .int .i64 0, .int .i64 0, .bool false])[j]? = some v → W5.cell? ⟨w.heap.size, j, none⟩ = some v := fun j v hv => by
          rw [cell_of_row _ _ _ _ _ _ hW]; exact hv
        have r0 : W5.cell? ⟨w.heap.size, 0, none⟩ = some (Value.int .i64 0) := r 0 _ rfl
        have r1 : W5.cell? ⟨w.heap.size, 1, none⟩ = some (Value.int .i64 0) := r 1 _ rfl
        have r2 : W5.cell? ⟨w.heap.size, 2, none⟩ = some (Value.int .i64 0) := r 2 _ rfl
        have r3 : W5.cell? ⟨w.heap.size, 3, none⟩ = some (Value.int .i64 0) := r 3 _ rfl
        have r4 : W5.cell? ⟨w.heap.size, 4, none⟩ = some (Value.int .i64 0) := r 4 _ rfl
        have r5 : W5.cell? ⟨w.heap.size, 5, none⟩ = some (Value.bool false) := r 5 _ rfl
        have f0 : ∀ j, W5.frozen? ⟨w.heap.size, j, none⟩ = false := fun j => by simp [World.frozen?, hW]
        have HW5 := Lib.hid hW
        clear r hW
        go_wp2_with fail
        refine bodyPost_ret (v := stat0) (results_cell (b := w.heap.size) rfl rfl ?_) rfl ⟨rfl, ?_⟩
        · exact run_loadVar_row _ w.heap.size 50 50 _ _ _ (stat_cells6 HW5.out _ _ _ _ _ _) Try.underlying50 rfl (by kernel_rfl)
        · exact (((((HG5.out.setCell (p := ⟨w.heap.size, 0, none⟩) (Nat.le_refl _) _).setCell (p := ⟨w.heap.size, 1, none⟩) (Nat.le_refl _) _).setCell (p := ⟨w.heap.size, 2, none⟩) (Nat.le_refl _) _).setCell (p := ⟨w.heap.size, 3, none⟩) (Nat.le_refl _) _).setCell (p := ⟨w.heap.size, 4, none⟩) (Nat.le_refl _) _).setCell (p := ⟨w.heap.size, 5, none⟩) (Nat.le_refl _) _)
end Go.Proofs.Ytkdphgcbecldbaa
/- The law's none (42). -/
namespace Go.Proofs.Ytkdphgcbecldbaa
open Go.RowKit
set_option maxRecDepth 100000 in
set_option maxHeartbeats 4000000 in
theorem none_ok (w : World) : Calls Try.prog 42 #[] w fun r w' => r = .returned (.bool true) ∧ Gr w w' := by
  have HG1 : Hid (Gr w ((w.alloc (.cells Z85 85)).alloc (.cells #[.pointer none, .pointer (some ⟨w.heap.size, 0, none⟩)] 42))) := (Gr.at_alloc w _).alloc _
  have HC0 : Hid (((w.alloc (.cells Z85 85)).alloc (.cells #[.pointer none, .pointer (some ⟨w.heap.size, 0, none⟩)] 42)).heap[w.heap.size]? = some (.cells Z85 85 (0, 0))) := by
    show _ = _
    rw [Below.heap_alloc _ _ _ (by rw [World.size_alloc]; omega)]
    exact heap_alloc_new w _
  have HC1 : Hid (((w.alloc (.cells Z85 85)).alloc (.cells #[.pointer none, .pointer (some ⟨w.heap.size, 0, none⟩)] 42)).heap[w.heap.size + 1]? = some (.cells #[.pointer none, .pointer (some ⟨w.heap.size, 0, none⟩)] 42 (0, 0))) := heap_alloc_at (World.size_alloc _ _).symm
  unfold Z85 at HG1 HC1
  go_enter Try.func42, Try.ntmps42
  go_wp2_with fail
  generalize hW1 : (w.alloc (.cells #[.int .i64 0, .int .i64 0, .int .i64 0, .bool false, .slice none 0 0, .slice none 0 0, .slice none 0 0] 85)).alloc (.cells #[.pointer none, .pointer (some ⟨w.heap.size, 0, none⟩)] 42) = W1 at *
  have HC0' : Hid (W1.heap[w.heap.size]? = some (.cells Z85 85 (0, 0))) := by rw [← hW1]; exact HC0.out
  clear HC0 hW1
  have HV : Hid (∀ wr, Gr W1 wr → ∀ k, k < 2 → ∃ v, wr.cell? ⟨w.heap.size + 1, k, none⟩ = some v ∧ No wr v) := fun wr hg k hk => by
    match k, hk with
    | 0, _ => exact ⟨.pointer none, cell_gr hg (cell_of_row _ _ _ _ _ _ HC1.out), .inl rfl⟩
    | 1, _ => exact ⟨.pointer (some ⟨w.heap.size, 0, none⟩), cell_gr hg (cell_of_row _ _ _ _ _ _ HC1.out), .inr ⟨_, rfl, gr_cells HC0'.out hg⟩⟩
  clear HC1 HC0'
  generalize w.heap.size + 1 = gl at *
  go_loopw [2] (fun i wr => ∃ k : Nat, k ≤ 2 ∧ i = .int .i64 k ∧ Hid (Gr W1 wr)) (fun i _ => 2 - (intOf i).toNat)
  case atStart => exact ⟨0, by omega, rfl, Below.refl _ _⟩
  case round =>
    obtain ⟨k, hk, rfl, HG⟩ := hrel
    by_cases hlt : k < 2
    · obtain ⟨v, hv, hno⟩ := HV.out wr HG.out k hlt
      have HNO := Lib.hid hno
      clear hno
      have b1 : (0 : Int) ≤ (k : Int) := by omega
      have b2 : (k : Int) < 2 := by omega
      go_wp2_with fail
      refine (no_read v 0 _ HNO.out).mono ?_
      rintro e w1 ⟨rfl, hg1⟩
      have HNO1 := Lib.hid (HNO.out.gr hg1)
      have HG1 := Lib.hid (Gr.step hg1 HG.out)
      clear hg1 HNO HG
      go_wp2_with fail
      refine (no_arm v 1 _ HNO1.out).mono ?_
      rintro e w2 ⟨rfl, rfl⟩
      go_wp2_with fail
      refine (no_stored v 0 _ HNO1.out).mono ?_
      rintro e w3 ⟨rfl, rfl⟩
      go_wp2_with fail
      refine (no_stat v _ HNO1.out).mono ?_
      rintro e w4 ⟨rfl, hg4⟩
      have HNO4 := Lib.hid (HNO1.out.gr hg4)
      have HG4 := Lib.hid (Gr.step hg4 HG1.out)
      clear hg4 HNO1 HG1
      unfold stat0
      go_wp2_with fail
      refine (no_write v 0 _ _ HNO4.out).mono ?_
      rintro e w5 ⟨rfl, hg5⟩
      have HNO5 := Lib.hid (HNO4.out.gr hg5)
      have HG5 := Lib.hid (Gr.step hg5 HG4.out)
      clear hg5 HNO4 HG4
      go_wp2_with fail
      refine (no_sync v _ HNO5.out).mono ?_
      rintro e w6 ⟨rfl, hg6⟩
      have HNO6 := Lib.hid (HNO5.out.gr hg6)
      have HG6 := Lib.hid (Gr.step hg6 HG5.out)
      clear hg6 HNO5 HG5
      go_wp2_with fail
      refine (no_crash v _ HNO6.out).mono ?_
      rintro e w7 ⟨rfl, hg7⟩
      have HNO7 := Lib.hid (HNO6.out.gr hg7)
      have HG7 := Lib.hid (Gr.step hg7 HG6.out)
      clear hg7 HNO6 HG6
      go_wp2_with fail
      refine (no_wake v 0 0 0 _ HNO7.out).mono ?_
      rintro e w8 ⟨rfl, hg8⟩
      have HNO8 := Lib.hid (HNO7.out.gr hg8)
      have HG8 := Lib.hid (Gr.step hg8 HG7.out)
      clear hg8 HNO7 HG7
      go_wp2_with fail
      refine (no_rot v 0 0 1 _ HNO8.out).mono ?_
      rintro e w9 ⟨rfl, hg9⟩
      have HNO9 := Lib.hid (HNO8.out.gr hg9)
      have HG9 := Lib.hid (Gr.step hg9 HG8.out)
      clear hg9 HNO8 HG8
      go_wp2_with fail
      refine (no_wipe v 0 _ HNO9.out).mono ?_
      rintro e w10 ⟨rfl, hg10⟩
      have HNO10 := Lib.hid (HNO9.out.gr hg10)
      have HG10 := Lib.hid (Gr.step hg10 HG9.out)
      clear hg10 HNO9 HG9
      go_wp2_with fail
      go_roundw
      case rel => exact ⟨k + 1, by omega, by go_num, HG10.out⟩
      case measure => simp [intOf]; omega
    · go_wp2_with fail
      go_ret
      exact ⟨rfl, Gr.step HG.out HG1.out⟩
end Go.Proofs.Ytkdphgcbecldbaa
