/- The disk: New. -/
import Derived.Test.YtkdphgcbecldbaaDevD
namespace Go.Proofs.Ytkdphgcbecldbaa
open Go.RowKit
def Zb : Array Value := Array.replicate 256 (.int .u8 0)
theorem info93 : (Try.prog.info? 93).map (fun i => (i.zero, i.size, i.bytes)) = some (some (.agg Zb), 256, 256) := by kernel_rfl
theorem info4 : (Try.prog.info? 4).map (fun i => (i.zero, i.size, i.bytes)) = some (some (.bool false), 1, 1) := by kernel_rfl
theorem Zb_cell (n i : Nat) (h : i < n) : (madeCells Zb n)[i]? = some (.int .u8 0) := by
  unfold madeCells
  have hs : Zb.size = 256 := by unfold Zb; exact Array.size_replicate
  have hm : i % 256 < 256 := Nat.mod_lt _ (by decide)
  rw [Array.getElem?_map, Array.getElem?_range, if_pos h]
  simp only [Option.map_some, hs]
  rw [getElem!_pos _ _ (by rw [hs]; exact hm)]
  simp [Zb]
theorem Fb_cell (n i : Nat) (h : i < n) : (madeCells #[.bool false] n)[i]? = some (.bool false) := by
  unfold madeCells
  rw [Array.getElem?_map, Array.getElem?_range, if_pos h]
  simp [Nat.mod_one]
/-- so many noughts (a name of its own: simp writes a replicate of a numeral out) -/
def Z (n : Nat) : List Nat := List.replicate n 0
theorem Z_len (n : Nat) : (Z n).length = n := List.length_replicate ..
theorem Z_get (n i : Nat) : (Z n).getD i 0 = 0 := by
  unfold Z
  rw [List.getD_eq_getElem?_getD, List.getElem?_replicate]
  split <;> rfl
theorem bvs_zero_at {n j : Nat} {v : Value} (h : (bvs (Z n))[j]? = some v) : j < n ∧ v = .int .u8 0 := by
  obtain ⟨hj, rfl⟩ := bvs_at h
  rw [Z_len] at hj
  exact ⟨hj, by rw [Z_get]; rfl⟩
/-- a new disk -/
def Dk.fresh (d bb hb k : Nat) : Dk := { d := d, bb := bb, hb := hb, base := d + 1, k := k, tu := 0, cr := 0, ar := 0, dn := false, bl := fun _ => Z 256, hu := fun _ => false, wv := .slice none 0 0, ws := [] }
theorem small_zero (n : Nat) : Small (Z n) := fun x hx => by rw [(List.mem_replicate.1 hx).2]; decide
theorem there_of_block {w : World} {g : Nat} {t : TypeId} {cs : Array Value} (h : w.heap[g]? = some (.cells cs t (0, 0))) (n : Nat) (hn : n ≤ cs.size) : w.there g 0 n := fun j hj => by
  refine ⟨?_, ?_⟩
  · rw [Nat.zero_add, cell_of_row w g j cs t (0, 0) h, Array.getElem?_eq_getElem (by omega)]; rfl
  · exact frozen_of_row w g _ cs t h
theorem dsk_new {w : World} {d bb hb k : Nat} (hk : 1 ≤ k) (hk2 : k ≤ 4096) (h1 : w.heap[bb]? = some (.cells (madeCells Zb (k * 256)) 93 (0, 0))) (h2 : w.heap[hb]? = some (.cells (madeCells #[.bool false] k) 4 (0, 0)))
    (h3 : w.heap[d]? = some (.cells #[.int .i64 0, .int .i64 0, .int .i64 0, .bool false, .slice (some ⟨bb, 0, none⟩) k k, .slice (some ⟨hb, 0, none⟩) k k, .slice none 0 0] 85 (0, 0)))
    (o1 : bb < d) (o2 : hb < d) (o3 : bb ≠ hb) : Dsk w (.fresh d bb hb k) := by
  have hd : d < w.heap.size := Blk.lt (t := 85) h3
  refine ⟨hk, hk2, ?_, there_of_block h3 7 (by simp), ?_, there_of_block h1 _ (by rw [size_madeCells]; exact Nat.le_refl _), ?_, ?_, there_of_block h2 _ (by rw [size_madeCells]; exact Nat.le_refl _), ?_, ?_, ?_, ?_, o3, ?_, ?_, ?_, ?_, ?_⟩
  · intro j v hv
    show w.cell? ⟨d, 0 + j, none⟩ = _
    rw [Nat.zero_add, cell_of_row w d j _ _ _ h3]
    rw [← hv]
    simp only [Dk.row, Dk.fresh]
    exact List.getElem?_toArray ..
  · intro i hi j v hv
    obtain ⟨hj, rfl⟩ := bvs_zero_at hv
    show w.cell? ⟨bb, i * 256 + j, none⟩ = _
    have hi' : i < k := hi
    rw [cell_of_row w bb _ _ _ _ h1, Zb_cell _ _ (by omega)]
  · intro i hi
    exact ⟨Z_len _, small_zero _⟩
  · intro i hi
    show w.cell? ⟨hb, i, none⟩ = _
    have hi' : i < k := hi
    rw [cell_of_row w hb _ _ _ _ h2, Fb_cell _ _ hi']
    rfl
  · exact World.ownsRow_nil _ _ _ _
  · intro e he; cases he
  · exact Nat.ne_of_gt o1
  · exact Nat.ne_of_gt o2
  · exact Nat.lt_succ_self d
  · show bb < d + 1; omega
  · show hb < d + 1; omega
  · exact hd
  · exact ⟨Int.le_refl 0, by show (0 : Int) ≤ _; omega⟩
set_option maxHeartbeats 400000 in
theorem new_no (n : Int) (w : World) (h : n < 1 ∨ 4096 < n) : Calls Try.prog 25 #[.int .i64 n] w fun r w' => r = .returned (.tuple #[.pointer none, .int .i64 2]) ∧ w = w' := by
  rcases h with h | h
  · go_enter Try.func25, Try.ntmps25
    go_wp2_with fail
    go_ret2
    exact ⟨rfl, rfl⟩
  · go_enter Try.func25, Try.ntmps25
    go_wp2_with fail
    go_ret2
    exact ⟨rfl, rfl⟩
theorem make79 (k : Nat) (hk : k ≤ 4096) (w : World) : (Instr.makeSlice 79 (.int .i64 k) (.int .i64 k)).run Try.prog w = .ok (.slice (some ⟨w.heap.size, 0, none⟩) k k) (w.alloc (.cells (madeCells Zb (k * 256)) 93)) := by
  obtain ⟨i, hi, hz, hs, hby⟩ := info_parts info93
  have h := run_makeSlice (P := Try.prog) w 79 93 i _ Try.underlying79 hi hz .i64 .i64 k k (by omega) (by omega) (by rw [hs]; omega) (by rw [hby]; omega) (by omega)
  rw [hs, Int.toNat_natCast] at h
  exact h
theorem make80 (k : Nat) (hk : k ≤ 4096) (w : World) : (Instr.makeSlice 80 (.int .i64 k) (.int .i64 k)).run Try.prog w = .ok (.slice (some ⟨w.heap.size, 0, none⟩) k k) (w.alloc (.cells (madeCells #[.bool false] k) 4)) := by
  obtain ⟨i, hi, hz, hs, hby⟩ := info_parts info4
  have h := run_makeSlice (P := Try.prog) w 80 4 i _ Try.underlying80 hi hz .i64 .i64 k k (by omega) (by omega) (by rw [hs]; omega) (by rw [hby]; omega) (by omega)
  rw [hs, Int.toNat_natCast, Nat.mul_one] at h
  exact h
theorem heap_three (w : World) (a b c : Obj) : (((w.alloc a).alloc b).alloc c).drew.heap[w.heap.size]? = some a ∧ (((w.alloc a).alloc b).alloc c).drew.heap[w.heap.size + 1]? = some b ∧ (((w.alloc a).alloc b).alloc c).drew.heap[w.heap.size + 1 + 1]? = some c := by
  have e1 : ((w.alloc a)).heap.size = w.heap.size + 1 := World.size_alloc ..
  have e2 : ((w.alloc a).alloc b).heap.size = w.heap.size + 1 + 1 := by rw [World.size_alloc, e1]
  refine ⟨?_, ?_, ?_⟩
  · show (((w.alloc a).alloc b).alloc c).heap[_]? = _
    rw [Below.heap_alloc _ _ _ (by omega), Below.heap_alloc _ _ _ (by omega)]
    exact heap_alloc_new w a
  · show (((w.alloc a).alloc b).alloc c).heap[_]? = _
    rw [Below.heap_alloc _ _ _ (by omega)]
    exact heap_alloc_at e1.symm
  · show (((w.alloc a).alloc b).alloc c).heap[_]? = _
    exact heap_alloc_at e2.symm
set_option maxHeartbeats 1000000 in
theorem new_yes (k : Nat) (w : World) (h1 : 1 ≤ k) (h2 : k ≤ 4096) : Calls Try.prog 25 #[.int .i64 k] w fun r w' => ∃ d bb hb, r = .returned (.tuple #[.pointer (some ⟨d, 0, none⟩), .int .i64 0]) ∧ Gr w w' ∧ Dsk w' (.fresh d bb hb k) ∧ w.heap.size ≤ bb ∧ w.heap.size ≤ hb ∧ w.heap.size ≤ d := by
  have m1 := make79 k h2
  have m2 := make80 k h2
  go_enter Try.func25, Try.ntmps25
  go_wp2_with fail
  go_region_held3 (fun w' => True) (trivial) (fail "no arm")
  all_goals (
    go_wp2_with fail
    go_ret2)
  · have h3 := heap_three w (.cells (madeCells Zb (k * 256)) 93) (.cells (madeCells #[.bool false] k) 4) (.cells #[.int .i64 0, .int .i64 0, .int .i64 0, .bool false, .slice (some ⟨w.heap.size, 0, none⟩) k k, .slice (some ⟨w.heap.size + 1, 0, none⟩) k k, .slice none 0 0] 85)
    exact ⟨w.heap.size + 1 + 1, w.heap.size, w.heap.size + 1, rfl, Below.drew (((Gr.at_alloc w _).alloc _).alloc _), dsk_new h1 h2 h3.1 h3.2.1 h3.2.2 (by omega) (by omega) (by omega), by omega, by omega, by omega⟩
  · have h3 := heap_three w (.cells (madeCells #[.bool false] k) 4) (.cells (madeCells Zb (k * 256)) 93) (.cells #[.int .i64 0, .int .i64 0, .int .i64 0, .bool false, .slice (some ⟨w.heap.size + 1, 0, none⟩) k k, .slice (some ⟨w.heap.size, 0, none⟩) k k, .slice none 0 0] 85)
    exact ⟨w.heap.size + 1 + 1, w.heap.size + 1, w.heap.size, rfl, Below.drew (((Gr.at_alloc w _).alloc _).alloc _), dsk_new h1 h2 h3.2.1 h3.1 h3.2.2 (by omega) (by omega) (by omega), by omega, by omega, by omega⟩
end Go.Proofs.Ytkdphgcbecldbaa
