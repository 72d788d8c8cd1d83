/- Texts of the proof, one behind the other: DevD, DevE, DevF, DevH, DevI, DevK. -/
import Derived.Test.YtkdphgcbecldbaaJc
import Derived.Test.YtkdphgcbecldbaaJf
import Derived.Deep.WholeRow
import Derived.Deep.RegionLaw
import Derived.Laws.CopyOwn
import Derived.Great.BuildSlice
import Derived.StillTailTactics
/- The disk: up, there, fall, turn. -/
namespace Go.Proofs.Ytkdphgcbecldbaa
open Go.RowKit
theorem Dsk.c {w : World} {D : Dk} (h : Dsk w D) (j : Nat) {v : Value} (hv : D.row[j]? = some v) : w.cell? ⟨D.d, j, none⟩ = some v := by
  have := h.row j v hv
  rwa [Nat.zero_add] at this
theorem Dsk.f {w : World} {D : Dk} (h : Dsk w D) (j : Nat) (hj : j < 7) : w.frozen? ⟨D.d, j, none⟩ = false := by
  have := (h.rowT j hj).2
  rwa [Nat.zero_add] at this

def Dk.up (D : Dk) : De := if D.dn then .cd 11 else .ok
def Dk.there (D : Dk) (n : Int) : De := if n < 0 ∨ (D.k : Int) ≤ n then .at_ n 2 else .ok
set_option maxHeartbeats 400000 in
theorem up_any (D : Dk) (w : World) (h : Dsk w D) : Calls Try.prog 53 #[.pointer (some ⟨D.d, 0, none⟩)] w fun r w' => r = .returned D.up.v ∧ w = w' := by
  have h3 := h.c 3 rfl
  have h4 := h.c 4 rfl
  have hk := h.kpos
  clear h
  cases hd : D.dn with
  | true =>
    have hu : D.up = .cd 11 := by simp [Dk.up, hd]
    rw [hu]
    rw [hd] at h3
    clear hu hd
    go_enter Try.func53, Try.ntmps53
    go_wp2_with fail
    go_ret
    exact ⟨rfl, rfl⟩
  | false =>
    have hu : D.up = .ok := by simp [Dk.up, hd]
    rw [hu]
    rw [hd] at h3
    clear hu hd
    go_enter Try.func53, Try.ntmps53
    go_wp2_with fail
    go_ret
    exact ⟨rfl, rfl⟩
set_option maxHeartbeats 400000 in
theorem there_any (D : Dk) (n : Int) (w : World) (h : Dsk w D) : Calls Try.prog 54 #[.pointer (some ⟨D.d, 0, none⟩), .int .i64 n] w fun r w' => r = .returned (D.there n).v ∧ w = w' := by
  have h4 := h.c 4 rfl
  have hk := h.kpos
  clear h
  by_cases hn : n < 0
  · have hu : D.there n = .at_ n 2 := if_pos (.inl hn)
    rw [hu]
    clear hu
    go_enter Try.func54, Try.ntmps54
    go_wp2_with fail
    go_ret
    exact ⟨rfl, rfl⟩
  · by_cases hn2 : (D.k : Int) ≤ n
    · have hu : D.there n = .at_ n 2 := if_pos (.inr hn2)
      rw [hu]
      clear hu
      go_enter Try.func54, Try.ntmps54
      go_wp2_with fail
      go_ret
      exact ⟨rfl, rfl⟩
    · have hu : D.there n = .ok := if_neg (by omega)
      rw [hu]
      clear hu
      go_enter Try.func54, Try.ntmps54
      go_wp2_with fail
      go_ret
      exact ⟨rfl, rfl⟩

/-- the disk has moved on: its own parts alone have turned -/
def Mv (w : World) (D : Dk) (w' : World) (D' : Dk) : Prop :=
  Kp D.fp w w' ∧ Dsk w' D' ∧ (∀ b, D'.fp b → D.fp b ∨ w.heap.size ≤ b) ∧ (D'.d, D'.bb, D'.hb, D'.base, D'.k) = (D.d, D.bb, D.hb, D.base, D.k)
theorem Mv.trans {a b c : World} {D E F : Dk} (h : Mv a D b E) (k : Mv b E c F) : Mv a D c F :=
  ⟨h.1.trans k.1 h.2.2.1, k.2.1, fun i hi => (k.2.2.1 i hi).elim (h.2.2.1 i) (fun hh => .inr (Nat.le_trans h.1.size hh)), k.2.2.2.trans h.2.2.2⟩
theorem Mv.refl {w : World} {D : Dk} (h : Dsk w D) : Mv w D w D := ⟨Kp.refl _ _, h, fun _ hb => .inl hb, rfl⟩
theorem Mv.gr {w w' : World} {D : Dk} (h : Dsk w D) (g : Gr w w') : Mv w D w' D := ⟨Kp.of_gr g, h.gr g, fun _ hb => .inl hb, rfl⟩
theorem Mv.put {w : World} {D D' : Dk} (h : Dsk w D) (j : Nat) (v : Value) (hj : j < 4) (hr : D'.row = D.row.set j v) (ha : 0 ≤ D'.ar ∧ D'.ar ≤ 9223372036854775807)
    (e : (D'.d, D'.bb, D'.hb, D'.base, D'.k, D'.bl, D'.hu, D'.wv, D'.ws) = (D.d, D.bb, D.hb, D.base, D.k, D.bl, D.hu, D.wv, D.ws)) : Mv w D (w.setCell ⟨D.d, j, none⟩ v) D' := by
  refine ⟨(Kp.refl _ _).setCell (.inl (.inl rfl)) v, h.put j v hj hr ha e, ?_, ?_⟩
  · simp only [Prod.mk.injEq] at e
    obtain ⟨e1, e2, e3, e4, e5, e6, e7, e8, e9⟩ := e
    intro b hb
    left
    unfold Dk.fp at *
    rw [e1, e2, e3, e8] at hb
    exact hb
  · simp only [Prod.mk.injEq] at e ⊢
    obtain ⟨e1, e2, e3, e4, e5, e6, e7, e8, e9⟩ := e
    exact ⟨e1, e2, e3, e4, e5⟩
def Dk.fall (D : Dk) : Dk := { D with ar := 0, dn := true, cr := wrap64 (D.cr + 1) }
def Dk.turn (D : Dk) : Dk := { D with ar := max (D.ar - 1) 0, tu := wrap64 (D.tu + 1) }
set_option maxHeartbeats 400000 in
theorem fall_any (D : Dk) (w : World) (h : Dsk w D) : Calls Try.prog 58 #[.pointer (some ⟨D.d, 0, none⟩)] w fun r w' => r = .returned (.tuple #[]) ∧ Mv w D w' D.fall := by
  have h1 := h.c 1 rfl
  have h2 := h.c 2 rfl
  have h3 := h.c 3 rfl
  have f1 := h.f 1 (by omega)
  have f2 := h.f 2 (by omega)
  have f3 := h.f 3 (by omega)
  have HH := Lib.hid h
  clear h
  go_enter Try.func58, Try.ntmps58
  go_wp2_with fail
  go_end0
  refine ⟨rfl, ?_⟩
  have m1 := Mv.put (D' := { D with ar := 0 }) HH.out 2 (.int .i64 0) (by omega) rfl (by simp) rfl
  have m2 := m1.trans (Mv.put (D' := { D with ar := 0, dn := true }) m1.2.1 3 (.bool true) (by omega) rfl (by simp) rfl)
  exact m2.trans (Mv.put (D' := D.fall) m2.2.1 1 (.int .i64 (wrap64 (D.cr + 1))) (by omega) rfl (by simp [Dk.fall]) rfl)
set_option maxHeartbeats 400000 in
theorem turn_no (D : Dk) (w : World) (h : Dsk w D) (h1 : D.ar = 1) : Calls Try.prog 55 #[.pointer (some ⟨D.d, 0, none⟩)] w fun r w' => r = .returned (De.cd 11).v ∧ Mv w D w' D.fall := by
  have h2 := h.c 2 rfl
  have HH := Lib.hid h
  clear h
  rw [h1] at h2
  go_enter Try.func55, Try.ntmps55
  go_wp2_with fail
  refine (fall_any D _ HH.out).mono ?_
  rintro e w1 ⟨rfl, hm⟩
  go_wp2_with fail
  go_ret
  exact ⟨rfl, hm⟩
set_option maxHeartbeats 400000 in
theorem turn_yes (D : Dk) (w : World) (h : Dsk w D) (h1 : ¬ D.ar = 1) : Calls Try.prog 55 #[.pointer (some ⟨D.d, 0, none⟩)] w fun r w' => r = .returned De.ok.v ∧ Mv w D w' D.turn := by
  have h0 := h.c 0 rfl
  have h2 := h.c 2 rfl
  have f0 := h.f 0 (by omega)
  have f2 := h.f 2 (by omega)
  have ha := h.arm
  have HH := Lib.hid h
  clear h
  go_enter Try.func55, Try.ntmps55
  go_wp2_with fail
  · go_ret
    refine ⟨rfl, ?_⟩
    have m1 := Mv.put (D' := { D with ar := 0 }) HH.out 2 (.int .i64 0) (by omega) rfl (by simp) rfl
    exact m1.trans (Mv.put (D' := D.turn) m1.2.1 0 (.int .i64 (wrap64 (D.tu + 1))) (by omega) (by rw [show D.turn = { D with ar := 0, tu := wrap64 (D.tu + 1) } by unfold Dk.turn; rw [show max (D.ar - 1) 0 = 0 by omega]]; rfl) (by unfold Dk.turn; simp only; omega) rfl)
  · go_ret
    refine ⟨rfl, ?_⟩
    have m1 := Mv.put (D' := { D with ar := D.ar - 1 }) HH.out 2 (.int .i64 (D.ar - 1)) (by omega) rfl (by simp only; omega) rfl
    exact m1.trans (Mv.put (D' := D.turn) m1.2.1 0 (.int .i64 (wrap64 (D.tu + 1))) (by omega) (by rw [show D.turn = { D with ar := D.ar - 1, tu := wrap64 (D.tu + 1) } by unfold Dk.turn; rw [show max (D.ar - 1) 0 = D.ar - 1 by omega]]; rfl) (by unfold Dk.turn; simp only; omega) rfl)
end Go.Proofs.Ytkdphgcbecldbaa
/- The disk: New. -/
namespace Go.Proofs.Ytkdphgcbecldbaa
open Go.RowKit
def Zb : Array Value := Array.replicate 256 (.int .u8 0)
theorem info93 : (Try.prog.info? 93).map (fun i => (i.zero, i.size, i.bytes)) = some (some (.agg Zb), 256, 256) := by kernel_rfl
theorem info4 : (Try.prog.info? 4).map (fun i => (i.zero, i.size, i.bytes)) = some (some (.bool false), 1, 1) := by kernel_rfl
theorem Zb_cell (n i : Nat) (h : i < n) : (madeCells Zb n)[i]? = some (.int .u8 0) := by
  unfold madeCells
  have hs : Zb.size = 256 := by unfold Zb; exact Array.size_replicate
  have hm : i % 256 < 256 := Nat.mod_lt _ (by decide)
  rw [Array.getElem?_map, Array.getElem?_range, if_pos h]
  simp only [Option.map_some, hs]
  rw [getElem!_pos _ _ (by rw [hs]; exact hm)]
  simp [Zb]
theorem Fb_cell (n i : Nat) (h : i < n) : (madeCells #[.bool false] n)[i]? = some (.bool false) := by
  unfold madeCells
  rw [Array.getElem?_map, Array.getElem?_range, if_pos h]
  simp [Nat.mod_one]
/-- so many noughts (a name of its own: simp writes a replicate of a numeral out) -/
def Z (n : Nat) : List Nat := List.replicate n 0
theorem Z_len (n : Nat) : (Z n).length = n := List.length_replicate ..
theorem Z_get (n i : Nat) : (Z n).getD i 0 = 0 := by
  unfold Z
  rw [List.getD_eq_getElem?_getD, List.getElem?_replicate]
  split <;> rfl
theorem bvs_zero_at {n j : Nat} {v : Value} (h : (bvs (Z n))[j]? = some v) : j < n ∧ v = .int .u8 0 := by
  obtain ⟨hj, rfl⟩ := bvs_at h
  rw [Z_len] at hj
  exact ⟨hj, by rw [Z_get]; rfl⟩
/-- a new disk -/
def Dk.fresh (d bb hb k : Nat) : Dk := { d := d, bb := bb, hb := hb, base := d + 1, k := k, tu := 0, cr := 0, ar := 0, dn := false, bl := fun _ => Z 256, hu := fun _ => false, wv := .slice none 0 0, ws := [] }
theorem small_zero (n : Nat) : Small (Z n) := fun x hx => by rw [(List.mem_replicate.1 hx).2]; decide
theorem there_of_block {w : World} {g : Nat} {t : TypeId} {cs : Array Value} (h : w.heap[g]? = some (.cells cs t (0, 0))) (n : Nat) (hn : n ≤ cs.size) : w.there g 0 n := fun j hj => by
  refine ⟨?_, ?_⟩
  · rw [Nat.zero_add, cell_of_row w g j cs t (0, 0) h, Array.getElem?_eq_getElem (by omega)]; rfl
  · exact frozen_of_row w g _ cs t h
theorem dsk_new {w : World} {d bb hb k : Nat} (hk : 1 ≤ k) (hk2 : k ≤ 4096) (h1 : w.heap[bb]? = some (.cells (madeCells Zb (k * 256)) 93 (0, 0))) (h2 : w.heap[hb]? = some (.cells (madeCells #[.bool false] k) 4 (0, 0)))
    (h3 : w.heap[d]? = some (.cells #[.int .i64 0, .int .i64 0, .int .i64 0, .bool false, .slice (some ⟨bb, 0, none⟩) k k, .slice (some ⟨hb, 0, none⟩) k k, .slice none 0 0] 85 (0, 0)))
    (o1 : bb < d) (o2 : hb < d) (o3 : bb ≠ hb) : Dsk w (.fresh d bb hb k) := by
  have hd : d < w.heap.size := Blk.lt (t := 85) h3
  refine ⟨hk, hk2, ?_, there_of_block h3 7 (by simp), ?_, there_of_block h1 _ (by rw [size_madeCells]; exact Nat.le_refl _), ?_, ?_, there_of_block h2 _ (by rw [size_madeCells]; exact Nat.le_refl _), ?_, ?_, ?_, ?_, o3, ?_, ?_, ?_, ?_, ?_⟩
  · intro j v hv
    show w.cell? ⟨d, 0 + j, none⟩ = _
    rw [Nat.zero_add, cell_of_row w d j _ _ _ h3]
    rw [← hv]
    simp only [Dk.row, Dk.fresh]
    exact List.getElem?_toArray ..
  · intro i hi j v hv
    obtain ⟨hj, rfl⟩ := bvs_zero_at hv
    show w.cell? ⟨bb, i * 256 + j, none⟩ = _
    have hi' : i < k := hi
    rw [cell_of_row w bb _ _ _ _ h1, Zb_cell _ _ (by omega)]
  · intro i hi
    exact ⟨Z_len _, small_zero _⟩
  · intro i hi
    show w.cell? ⟨hb, i, none⟩ = _
    have hi' : i < k := hi
    rw [cell_of_row w hb _ _ _ _ h2, Fb_cell _ _ hi']
    rfl
  · exact World.ownsRow_nil _ _ _ _
  · intro e he; cases he
  · exact Nat.ne_of_gt o1
  · exact Nat.ne_of_gt o2
  · exact Nat.lt_succ_self d
  · show bb < d + 1; omega
  · show hb < d + 1; omega
  · exact hd
  · exact ⟨Int.le_refl 0, by show (0 : Int) ≤ _; omega⟩
set_option maxHeartbeats 400000 in
theorem new_no (n : Int) (w : World) (h : n < 1 ∨ 4096 < n) : Calls Try.prog 25 #[.int .i64 n] w fun r w' => r = .returned (.tuple #[.pointer none, .int .i64 2]) ∧ w = w' := by
  rcases h with h | h
  · go_enter Try.func25, Try.ntmps25
    go_wp2_with fail
    go_ret2
    exact ⟨rfl, rfl⟩
  · go_enter Try.func25, Try.ntmps25
    go_wp2_with fail
    go_ret2
    exact ⟨rfl, rfl⟩
theorem make79 (k : Nat) (hk : k ≤ 4096) (w : World) : (Instr.makeSlice 79 (.int .i64 k) (.int .i64 k)).run Try.prog w = .ok (.slice (some ⟨w.heap.size, 0, none⟩) k k) (w.alloc (.cells (madeCells Zb (k * 256)) 93)) := by
  obtain ⟨i, hi, hz, hs, hby⟩ := info_parts info93
  have h := run_makeSlice (P := Try.prog) w 79 93 i _ Try.underlying79 hi hz .i64 .i64 k k (by omega) (by omega) (by rw [hs]; omega) (by rw [hby]; omega) (by omega)
  rw [hs, Int.toNat_natCast] at h
  exact h
theorem make80 (k : Nat) (hk : k ≤ 4096) (w : World) : (Instr.makeSlice 80 (.int .i64 k) (.int .i64 k)).run Try.prog w = .ok (.slice (some ⟨w.heap.size, 0, none⟩) k k) (w.alloc (.cells (madeCells #[.bool false] k) 4)) := by
  obtain ⟨i, hi, hz, hs, hby⟩ := info_parts info4
  have h := run_makeSlice (P := Try.prog) w 80 4 i _ Try.underlying80 hi hz .i64 .i64 k k (by omega) (by omega) (by rw [hs]; omega) (by rw [hby]; omega) (by omega)
  rw [hs, Int.toNat_natCast, Nat.mul_one] at h
  exact h
theorem heap_three (w : World) (a b c : Obj) : (((w.alloc a).alloc b).alloc c).drew.heap[w.heap.size]? = some a ∧ (((w.alloc a).alloc b).alloc c).drew.heap[w.heap.size + 1]? = some b ∧ (((w.alloc a).alloc b).alloc c).drew.heap[w.heap.size + 1 + 1]? = some c := by
  have e1 : ((w.alloc a)).heap.size = w.heap.size + 1 := World.size_alloc ..
  have e2 : ((w.alloc a).alloc b).heap.size = w.heap.size + 1 + 1 := by rw [World.size_alloc, e1]
  refine ⟨?_, ?_, ?_⟩
  · show (((w.alloc a).alloc b).alloc c).heap[_]? = _
    rw [Below.heap_alloc _ _ _ (by omega), Below.heap_alloc _ _ _ (by omega)]
    exact heap_alloc_new w a
  · show (((w.alloc a).alloc b).alloc c).heap[_]? = _
    rw [Below.heap_alloc _ _ _ (by omega)]
    exact heap_alloc_at e1.symm
  · show (((w.alloc a).alloc b).alloc c).heap[_]? = _
    exact heap_alloc_at e2.symm
set_option maxHeartbeats 1000000 in
theorem new_yes (k : Nat) (w : World) (h1 : 1 ≤ k) (h2 : k ≤ 4096) : Calls Try.prog 25 #[.int .i64 k] w fun r w' => ∃ d bb hb, r = .returned (.tuple #[.pointer (some ⟨d, 0, none⟩), .int .i64 0]) ∧ Gr w w' ∧ Dsk w' (.fresh d bb hb k) ∧ w.heap.size ≤ bb ∧ w.heap.size ≤ hb ∧ w.heap.size ≤ d := by
  have m1 := make79 k h2
  have m2 := make80 k h2
  go_enter Try.func25, Try.ntmps25
  go_wp2_with fail
  go_region_held3 (fun w' => True) (trivial) (fail "no arm")
  all_goals (
    go_wp2_with fail
    go_ret2)
  · have h3 := heap_three w (.cells (madeCells Zb (k * 256)) 93) (.cells (madeCells #[.bool false] k) 4) (.cells #[.int .i64 0, .int .i64 0, .int .i64 0, .bool false, .slice (some ⟨w.heap.size, 0, none⟩) k k, .slice (some ⟨w.heap.size + 1, 0, none⟩) k k, .slice none 0 0] 85)
    exact ⟨w.heap.size + 1 + 1, w.heap.size, w.heap.size + 1, rfl, Below.drew (((Gr.at_alloc w _).alloc _).alloc _), dsk_new h1 h2 h3.1 h3.2.1 h3.2.2 (by omega) (by omega) (by omega), by omega, by omega, by omega⟩
  · have h3 := heap_three w (.cells (madeCells #[.bool false] k) 4) (.cells (madeCells Zb (k * 256)) 93) (.cells #[.int .i64 0, .int .i64 0, .int .i64 0, .bool false, .slice (some ⟨w.heap.size + 1, 0, none⟩) k k, .slice (some ⟨w.heap.size, 0, none⟩) k k, .slice none 0 0] 85)
    exact ⟨w.heap.size + 1 + 1, w.heap.size + 1, w.heap.size, rfl, Below.drew (((Gr.at_alloc w _).alloc _).alloc _), dsk_new h1 h2 h3.2.1 h3.1 h3.2.2 (by omega) (by omega) (by omega), by omega, by omega, by omega⟩
end Go.Proofs.Ytkdphgcbecldbaa
/- The disk: contracts split, words for a write that waits. -/
namespace Go.Proofs.Ytkdphgcbecldbaa
open Go.RowKit
theorem up_ok (D : Dk) (w : World) (h : Dsk w D) (hd : D.dn = false) : Calls Try.prog 53 #[.pointer (some ⟨D.d, 0, none⟩)] w fun r w' => r = .returned .nilIface ∧ w = w' := by
  have := up_any D w h
  rwa [show D.up = .ok by simp [Dk.up, hd]] at this
theorem up_no (D : Dk) (w : World) (h : Dsk w D) (hd : D.dn = true) : Calls Try.prog 53 #[.pointer (some ⟨D.d, 0, none⟩)] w fun r w' => r = .returned (.iface 89 (.int .i64 11)) ∧ w = w' := by
  have := up_any D w h
  rwa [show D.up = .cd 11 by simp [Dk.up, hd]] at this
theorem there_ok (D : Dk) (n : Int) (w : World) (h : Dsk w D) (h0 : 0 ≤ n) (h1 : n < D.k) : Calls Try.prog 54 #[.pointer (some ⟨D.d, 0, none⟩), .int .i64 n] w fun r w' => r = .returned .nilIface ∧ w = w' := by
  have := there_any D n w h
  rwa [show D.there n = .ok from if_neg (by omega)] at this
theorem there_no (D : Dk) (n : Int) (w : World) (h : Dsk w D) (h0 : n < 0 ∨ D.k ≤ n) : Calls Try.prog 54 #[.pointer (some ⟨D.d, 0, none⟩), .int .i64 n] w fun r w' => r = .returned (.iface 91 (.agg #[.int .i64 n, .iface 89 (.int .i64 2)])) ∧ w = w' := by
  have := there_any D n w h
  rwa [show D.there n = .at_ n 2 from if_pos h0] at this
theorem first_oo (w : World) (g : Nat) (h : w.heap[g]? = some (.cells #[.nilIface, .nilIface] 70)) : Calls Try.prog 52 #[.slice (some ⟨g, 0, none⟩) 2 2] w fun r w' => r = .returned .nilIface ∧ w = w' :=
  first2_any g .ok .ok w (by rw [cell_of_row _ _ _ _ _ _ h]; rfl) (by rw [cell_of_row _ _ _ _ _ _ h]; rfl)
theorem first_on (w : World) (g : Nat) (n c : Int) (h : w.heap[g]? = some (.cells #[.nilIface, .iface 91 (.agg #[.int .i64 n, .iface 89 (.int .i64 c)])] 70)) : Calls Try.prog 52 #[.slice (some ⟨g, 0, none⟩) 2 2] w fun r w' => r = .returned (.iface 91 (.agg #[.int .i64 n, .iface 89 (.int .i64 c)])) ∧ w = w' :=
  first2_any g .ok (.at_ n c) w (by rw [cell_of_row _ _ _ _ _ _ h]; rfl) (by rw [cell_of_row _ _ _ _ _ _ h]; rfl)
theorem first_no (w : World) (g : Nat) (c : Int) (h : w.heap[g]? = some (.cells #[.iface 89 (.int .i64 c), .nilIface] 70)) : Calls Try.prog 52 #[.slice (some ⟨g, 0, none⟩) 2 2] w fun r w' => r = .returned (.iface 89 (.int .i64 c)) ∧ w = w' :=
  first2_any g (.cd c) .ok w (by rw [cell_of_row _ _ _ _ _ _ h]; rfl) (by rw [cell_of_row _ _ _ _ _ _ h]; rfl)
theorem first_nn (w : World) (g : Nat) (c n c' : Int) (h : w.heap[g]? = some (.cells #[.iface 89 (.int .i64 c), .iface 91 (.agg #[.int .i64 n, .iface 89 (.int .i64 c')])] 70)) : Calls Try.prog 52 #[.slice (some ⟨g, 0, none⟩) 2 2] w fun r w' => r = .returned (.iface 89 (.int .i64 c)) ∧ w = w' :=
  first2_any g (.cd c) (.at_ n c') w (by rw [cell_of_row _ _ _ _ _ _ h]; rfl) (by rw [cell_of_row _ _ _ _ _ _ h]; rfl)
theorem z95 : Try.zeroCells95 = #[.int .i64 0] ++ Zb := by kernel_rfl
theorem info95 : (Try.prog.info? 95).map (fun i => (i.zero, i.size, i.bytes)) = some (some (.agg (#[.int .i64 0] ++ Zb)), 257, 264) := by kernel_rfl
theorem store95 (W : World) (n : Int) : (storeCells ⟨W.heap.size, 0, none⟩ (Try.zeroCells95.toList.set 0 (.int .i64 n))).run Try.prog (W.alloc (.cells Try.zeroCells95 95)) = .ok () (W.alloc (.cells (#[.int .i64 n] ++ Zb) 95)) := by
  have hs : (#[Value.int .i64 n] ++ Zb).size = 257 := by simp [Zb]
  have h := run_storeCells_new (P := Try.prog) W 95 (#[.int .i64 0] ++ Zb) (#[.int .i64 n] ++ Zb) (by rw [hs]; kernel_rfl) (by simp) (by kernel_rfl)
  rw [z95]
  have e : (#[Value.int .i64 0] ++ Zb).toList.set 0 (.int .i64 n) = (#[Value.int .i64 n] ++ Zb).toList := by simp
  rw [e]
  exact h
/-- bytes of a block -/
def pad (l : List Nat) : List Nat := l ++ Z (256 - l.length)
theorem pad_len {l : List Nat} (h : l.length ≤ 256) : (pad l).length = 256 := by unfold pad; rw [List.length_append, Z_len]; omega
theorem small_pad {l : List Nat} (h : Small l) : Small (pad l) := fun x hx => by
  rcases List.mem_append.1 hx with h1 | h1
  · exact h x h1
  · rw [(List.mem_replicate.1 h1).2]; decide
theorem size5 : (Try.prog.info? 5).map (·.size) = some 1 := by kernel_rfl
theorem bvs_len (l : List Nat) : (bvs l).length = l.length := by simp [bvs]
theorem bvs_Z (n : Nat) : bvs (Z n) = List.replicate n (.int .u8 0) := by unfold bvs Z; rw [List.map_replicate]; rfl
theorem splice_pad (n : Nat) (l : List Nat) : splice (.int .i64 (n : Int) :: bvs (Z 256)) 1 (bvs l) = lc (n, pad l) := by
  unfold splice lc pad
  rw [bvs_len]
  have e : bvs (l ++ Z (256 - l.length)) = bvs l ++ bvs (Z (256 - l.length)) := by unfold bvs; rw [List.map_append]
  rw [e]
  have e2 : (Value.int .i64 (n : Int) :: bvs (Z 256)).drop (1 + l.length) = bvs (Z (256 - l.length)) := by
    rw [Nat.add_comm, List.drop_succ_cons, bvs_Z, bvs_Z, List.drop_replicate]
  rw [e2, List.take_succ_cons, List.take_zero]
  rfl
theorem Zb_list (n : Nat) : (#[Value.int .i64 (n : Int)] ++ Zb) = (.int .i64 (n : Int) :: bvs (Z 256)).toArray := by
  apply Array.ext'
  rw [bvs_Z]
  unfold Zb
  rw [Array.toList_append, Array.toList_replicate]
  rfl
theorem fold_fill : ∀ (L : List Value) (k : Nat) (cells : Array Value), k + L.length ≤ cells.size → ∀ i, ((L.zipIdx k).foldl (fun (cs : Array Value) (p : Value × Nat) => cs.setIfInBounds (0 + p.2) p.1) cells)[i]? = if k ≤ i ∧ i < k + L.length then L[i - k]? else cells[i]?
  | [], k, cells, _, i => by
    rw [if_neg (by simp)]
    rfl
  | v :: r, k, cells, h, i => by
    have hl : k + (r.length + 1) ≤ cells.size := h
    rw [List.zipIdx_cons, List.foldl_cons, fold_fill r (k + 1) _ (by rw [Array.size_setIfInBounds]; omega) i]
    rw [List.length_cons]
    by_cases h1 : i = k
    · subst h1
      rw [if_neg (by omega), if_pos (by omega), Nat.sub_self, Nat.zero_add, Array.getElem?_setIfInBounds_self_of_lt (by omega)]
      rfl
    · by_cases h2 : k + 1 ≤ i ∧ i < k + 1 + r.length
      · rw [if_pos h2, if_pos (by omega), show i - k = (i - (k + 1)) + 1 by omega]
        rfl
      · rw [if_neg h2, if_neg (by omega), Nat.zero_add, Array.getElem?_setIfInBounds_ne (by omega)]
theorem fill_one (X base : Array Value) (s : Nat) (hX : X.size = s) (hb : base.size = s) : Instr.fill (fun i => some (i * s, s)) base [(0, .agg X)] = some X := by
  unfold Instr.fill
  have e : (Value.agg X).cells = X := rfl
  simp only [e, hX, hb, Nat.zero_mul, Nat.zero_add, ne_eq, not_true_eq_false, decide_false, Bool.false_or, gt_iff_lt, Nat.lt_irrefl, Bool.false_eq_true, if_false]
  unfold Instr.fill
  congr 1
  apply Array.ext_getElem?
  intro i
  rw [← Array.foldl_toList, Array.toList_zipIdx]
  have h := fold_fill X.toList 0 base (by rw [Array.length_toList]; omega) i
  simp only [Nat.zero_add] at h
  rw [h, Array.length_toList]
  by_cases hi : i < X.size
  · rw [if_pos ⟨Nat.zero_le _, hi⟩, Nat.sub_zero, Array.getElem?_toList]
  · rw [if_neg (by omega), Array.getElem?_eq_none (by omega), Array.getElem?_eq_none (by omega)]
end Go.Proofs.Ytkdphgcbecldbaa
/- Rows of many cells, as the walk shall see them. -/
namespace Go.Proofs.Ytkdphgcbecldbaa
open Go.RowKit
/-- a load of a whole row, as the walk shall see it -/
noncomputable def ldv (t : TypeId) (v : Value) (w : World) : Result Value := (Instr.loadAt t v).run Try.prog w
noncomputable def stv (t : TypeId) (p v : Value) (w : World) : Result Unit := (Instr.storeAt t p v).run Try.prog w
noncomputable def bsv (t : TypeId) (n : Nat) (ps : Array (Nat × Value)) (w : World) : Result Value := (Instr.buildSlice t n ps).run Try.prog w
theorem wp_ld95 {dst : Option Tmp} {x : Operand} {ty : TypeId} {pos : String} {af} {gd} {a : Act} {w : World} {K Q} :
    Oper.wp Try.prog ⟨dst, .load 95 x, ty, pos, af, gd⟩ a w K Q = Oper.upon Try.prog ⟨dst, .load 95 x, ty, pos, af, gd⟩ a K Q ((ldv 95 (a.eval x) w).andThen fun v w' => .ok (.value v) w') := by
  unfold Oper.wp ldv
  simp only [execOp, Sem.run_bind]
  rfl
theorem wp_st95 {dst : Option Tmp} {x y : Operand} {ty : TypeId} {pos : String} {af} {gd} {a : Act} {w : World} {K Q} :
    Oper.wp Try.prog ⟨dst, .store 95 x y, ty, pos, af, gd⟩ a w K Q = Oper.upon Try.prog ⟨dst, .store 95 x y, ty, pos, af, gd⟩ a K Q ((stv 95 (a.eval x) (a.eval y) w).andThen fun _ w' => .ok .skip w') := by
  unfold Oper.wp stv
  simp only [execOp, Sem.run_bind]
  rfl
theorem wp_bs83 {dst : Option Tmp} {n : Nat} {x : Operand} {ty : TypeId} {pos : String} {af} {gd} {a : Act} {w : World} {K Q} :
    Oper.wp Try.prog ⟨dst, .buildSlice 83 n #[(0, x)], ty, pos, af, gd⟩ a w K Q = Oper.upon Try.prog ⟨dst, .buildSlice 83 n #[(0, x)], ty, pos, af, gd⟩ a K Q ((bsv 83 n #[(0, a.eval x)] w).andThen fun v w' => .ok (.value v) w') := by
  unfold Oper.wp bsv
  simp only [execOp, Sem.run_bind, List.map_toArray, List.map_cons, List.map_nil]
  rfl
theorem wp_ld93 {dst : Option Tmp} {x : Operand} {ty : TypeId} {pos : String} {af} {gd} {a : Act} {w : World} {K Q} :
    Oper.wp Try.prog ⟨dst, .load 93 x, ty, pos, af, gd⟩ a w K Q = Oper.upon Try.prog ⟨dst, .load 93 x, ty, pos, af, gd⟩ a K Q ((ldv 93 (a.eval x) w).andThen fun v w' => .ok (.value v) w') := by
  unfold Oper.wp ldv
  simp only [execOp, Sem.run_bind]
  rfl
theorem wp_st93 {dst : Option Tmp} {x y : Operand} {ty : TypeId} {pos : String} {af} {gd} {a : Act} {w : World} {K Q} :
    Oper.wp Try.prog ⟨dst, .store 93 x y, ty, pos, af, gd⟩ a w K Q = Oper.upon Try.prog ⟨dst, .store 93 x y, ty, pos, af, gd⟩ a K Q ((stv 93 (a.eval x) (a.eval y) w).andThen fun _ w' => .ok .skip w') := by
  unfold Oper.wp stv
  simp only [execOp, Sem.run_bind]
  rfl
theorem sz95 : (Try.prog.info? 95).map (·.size) = some 257 := by kernel_rfl
theorem sz93 : (Try.prog.info? 93).map (·.size) = some 256 := by kernel_rfl
theorem ldv95 {w : World} {b o : Nat} {cs : List Value} (h : w.rangeAt b o cs) (hl : cs.length = 257) : ldv 95 (.pointer (some ⟨b, o, none⟩)) w = .ok (.agg cs.toArray) w :=
  run_loadAt_mid w b o 95 cs _ h Try.underlying95 rfl (by rw [hl]; exact sz95)
theorem ldv93 {w : World} {b o : Nat} {cs : List Value} (h : w.rangeAt b o cs) (hl : cs.length = 256) : ldv 93 (.pointer (some ⟨b, o, none⟩)) w = .ok (.agg cs.toArray) w :=
  run_loadAt_mid w b o 93 cs _ h Try.underlying93 rfl (by rw [hl]; exact sz93)
theorem stv95 {w : World} {b o : Nat} {cells : Array Value} (h : w.there b o 257) (hl : cells.size = 257) (h1 : cells.all (·.oneCell') = true) : stv 95 (.pointer (some ⟨b, o, none⟩)) (.agg cells) w = .ok () (w.setCells b o cells.toList) :=
  run_storeAt_mid w b o 95 cells (by rw [hl]; exact h) (by rw [hl]; exact sz95) h1
theorem stv93 {w : World} {b o : Nat} {cells : Array Value} (h : w.there b o 256) (hl : cells.size = 256) (h1 : cells.all (·.oneCell') = true) : stv 93 (.pointer (some ⟨b, o, none⟩)) (.agg cells) w = .ok () (w.setCells b o cells.toList) :=
  run_storeAt_mid w b o 93 cells (by rw [hl]; exact h) (by rw [hl]; exact sz93) h1
theorem zs95 : Try.zeroCells95.size = 257 := by rw [z95]; unfold Zb; rw [Array.size_append, Array.size_replicate]; rfl
theorem stv95_new (w : World) (cells : Array Value) (hl : cells.size = 257) (h1 : cells.all (·.oneCell') = true) : stv 95 (.pointer (some ⟨w.heap.size, 0, none⟩)) (.agg cells) (w.alloc (.cells Try.zeroCells95 95)) = .ok () (w.alloc (.cells cells 95)) :=
  run_storeAt_new w 95 _ cells (by rw [hl]; exact sz95) (by rw [hl]; exact zs95) h1
theorem bsv83 (w : World) (X : Array Value) (hX : X.size = 257) : bsv 83 1 #[(0, .agg X)] w = .ok (.slice (some ⟨w.heap.size, 0, none⟩) 1 1) (w.alloc (.cells X 95)) := by
  obtain ⟨i0, hi0, hz0, hz1, hz2⟩ := info_parts info95
  refine run_buildSlice (P := Try.prog) w 83 95 1 _ X i0 _ Try.underlying83 hi0 hz0 (by rw [hz1]; decide) (by rw [hz1]; decide) ?_
  rw [hz1]
  exact fill_one X _ 257 hX (by rw [Array.size_map, Array.size_range])
end Go.Proofs.Ytkdphgcbecldbaa
/- The disk: its waits are turned. No program in sight. -/
namespace Go.Proofs.Ytkdphgcbecldbaa
open Go.RowKit
theorem Dsk.waits {S : Nat → Prop} {w w3 : World} {D : Dk} (h : Dsk w D) (hk : Kp S w w3) (h1 : ¬ S D.d) (h2 : ¬ S D.bb) (h3 : ¬ S D.hb) {v : Value} {ws' : List (Nat × List Nat)}
    (own : w3.ownsRow D.base 95 257 v ws'.length (lrow ws')) (hws : ∀ e, e ∈ ws' → e.1 < D.k ∧ e.2.length = 256 ∧ Small e.2) :
    Dsk (w3.setCell ⟨D.d, 6, none⟩ v) { D with wv := v, ws := ws' } := by
  have d4 := h.o4; have d5 := h.o5; have d6 := h.o6; have d7 := h.o7
  have cd : ∀ i, w3.cell? ⟨D.d, i, none⟩ = w.cell? ⟨D.d, i, none⟩ := fun i => hk.cell (p := ⟨D.d, i, none⟩) (by simp only; omega) h1
  have fd : ∀ i, w3.frozen? ⟨D.d, i, none⟩ = w.frozen? ⟨D.d, i, none⟩ := fun i => hk.frozen (p := ⟨D.d, i, none⟩) (by simp only; omega) h1
  have cb : ∀ i, w3.cell? ⟨D.bb, i, none⟩ = w.cell? ⟨D.bb, i, none⟩ := fun i => hk.cell (p := ⟨D.bb, i, none⟩) (by simp only; omega) h2
  have fb : ∀ i, w3.frozen? ⟨D.bb, i, none⟩ = w.frozen? ⟨D.bb, i, none⟩ := fun i => hk.frozen (p := ⟨D.bb, i, none⟩) (by simp only; omega) h2
  have ch : ∀ i, w3.cell? ⟨D.hb, i, none⟩ = w.cell? ⟨D.hb, i, none⟩ := fun i => hk.cell (p := ⟨D.hb, i, none⟩) (by simp only; omega) h3
  have fh : ∀ i, w3.frozen? ⟨D.hb, i, none⟩ = w.frozen? ⟨D.hb, i, none⟩ := fun i => hk.frozen (p := ⟨D.hb, i, none⟩) (by simp only; omega) h3
  have co : ∀ b i, b ≠ D.d → (w3.setCell ⟨D.d, 6, none⟩ v).cell? ⟨b, i, none⟩ = w3.cell? ⟨b, i, none⟩ := fun b i hb => World.cell?_setCell_other _ _ _ _ (by intro e; injection e with e; exact hb e.symm)
  have rowT : w3.there D.d 0 7 := fun j hj => by rw [cd, fd]; exact h.rowT j hj
  have blT : w3.there D.bb 0 (D.k * 256) := fun j hj => by rw [cb, fb]; exact h.blT j hj
  have huT : w3.there D.hb 0 D.k := fun j hj => by rw [ch, fh]; exact h.huT j hj
  obtain ⟨u, hu⟩ : ∃ u, w3.cell? ⟨D.d, 6, none⟩ = some u := by
    have := (rowT 6 (by omega)).1
    rw [Nat.zero_add] at this
    exact Option.isSome_iff_exists.1 this
  refine ⟨h.kpos, h.kle, ?_, ?_, ?_, ?_, h.bln, ?_, ?_, ?_, hws, h.o1, h.o2, h.o3, d4, d5, d6, ?_, h.arm⟩
  · intro i x hx
    show (w3.setCell ⟨D.d, 6, none⟩ v).cell? ⟨D.d, 0 + i, none⟩ = _
    rw [Nat.zero_add]
    have hx' : (D.row.set 6 v)[i]? = some x := hx
    by_cases hij : i = 6
    · subst hij
      have hlt : 6 < D.row.length := by show 6 < 7; omega
      rw [List.getElem?_set_self hlt] at hx'
      injection hx' with hx'
      subst hx'
      rw [World.cell?_setCell_same _ _ _ hu]
    · rw [List.getElem?_set_ne (Ne.symm hij)] at hx'
      rw [World.cell?_setCell_other _ _ _ _ (by intro e; injection e with _ e; exact hij e.symm), cd]
      have := h.row i x hx'
      rwa [Nat.zero_add] at this
  · exact World.there_setCells rowT D.d 6 [v]
  · intro i hi j' x hx
    rw [co _ _ (Ne.symm h.o1), cb]
    exact h.bls i hi j' x hx
  · exact World.there_setCells blT D.d 6 [v]
  · intro i hi
    rw [co _ _ (Ne.symm h.o2), ch]
    exact h.hus i hi
  · exact World.there_setCells huT D.d 6 [v]
  · obtain ⟨hl, h1 | ⟨g, cap, cur, hv, hg, hh, hr⟩⟩ := own
    · exact ⟨hl, .inl h1⟩
    · exact ⟨hl, .inr ⟨g, cap, cur, hv, hg, (Below.heap_setCell w3 _ v g (by simp only; omega)).trans hh, hr⟩⟩
  · show D.base ≤ (w3.setCell _ v).heap.size
    have := hk.size
    simp only [World.setCell, Array.size_modify]
    omega
theorem Dsk.not_own {w : World} {D : Dk} (h : Dsk w D) {b : Nat} (hb : b < D.base) : ¬ D.wv.ownBlock = some b := fun e => by
  have := (h.own_ge e).1
  omega
/-- what is appended is laid down -/
theorem Mv.app {w w3 : World} {D : Dk} {o : Obj} {n : Nat} {l : List Nat} {gg cap : Nat} (h : Dsk w D) (hn : n < D.k) (hl : l.length = 256) (hs : Small l)
    (own : w3.ownsRow D.base 95 257 (.slice (some ⟨gg, 0, none⟩) (D.ws.length + 1) cap) (D.ws.length + 1) (lrow D.ws ++ lc (n, l))) (hg : (w.alloc o).drew.grownBy w3 D.wv.ownBlock) (hat : D.wv.ownBlock = some gg ∨ gg = w.heap.size + 1) :
    Mv w D (w3.setCell ⟨D.d, 6, none⟩ (.slice (some ⟨gg, 0, none⟩) (D.ws.length + 1) cap)) { D with wv := .slice (some ⟨gg, 0, none⟩) (D.ws.length + 1) cap, ws := D.ws ++ [(n, l)] } := by
  have k1 : Kp (fun b => D.wv.ownBlock = some b) w (w.alloc o).drew := Kp.of_gr (Below.drew (Gr.at_alloc w o))
  have k2 : Kp (fun b => D.wv.ownBlock = some b) (w.alloc o).drew w3 := ⟨hg.os, hg.tape, hg.output, hg.size, fun k hk hn => hg.block k hk fun e => hn e.symm⟩
  have k3 : Kp (fun b => D.wv.ownBlock = some b) w w3 := k1.trans k2 fun _ hi => .inl hi
  have e1 : lrow (D.ws ++ [(n, l)]) = lrow D.ws ++ lc (n, l) := by unfold lrow; rw [List.map_append, List.flatten_append]; simp
  have e2 : (D.ws ++ [(n, l)]).length = D.ws.length + 1 := by simp
  refine ⟨?_, ?_, ?_, rfl⟩
  · exact (k3.mono fun i hi => .inr (.inr (.inr hi))).setCell (.inl (.inl rfl)) _
  · refine h.waits k3 (h.not_own h.o4) (h.not_own h.o5) (h.not_own h.o6) ?_ ?_
    · rw [e1, e2]; exact own
    · intro e he
      rcases List.mem_append.1 he with he | he
      · exact h.wsn e he
      · rw [List.mem_singleton.1 he]; exact ⟨hn, hl, hs⟩
  · intro b hb
    rcases hb with hb | hb | hb | hb
    · exact .inl (.inl hb)
    · exact .inl (.inr (.inl hb))
    · exact .inl (.inr (.inr (.inl hb)))
    · have hb' : gg = b := by simpa [Value.ownBlock] using hb
      subst hb'
      rcases hat with e | e
      · exact .inl (.inr (.inr (.inr e)))
      · exact .inr (by omega)
/-- the waits are thrown away -/
theorem Mv.drop {w : World} {D : Dk} (h : Dsk w D) : Mv w D (w.setCell ⟨D.d, 6, none⟩ (.slice none 0 0)) { D with wv := .slice none 0 0, ws := [] } := by
  refine ⟨(Kp.refl _ _).setCell (.inl (.inl rfl)) _, ?_, ?_, rfl⟩
  · exact h.waits (Kp.refl (fun _ => False) w) (fun h => h) (fun h => h) (fun h => h) (World.ownsRow_nil _ _ _ _) (by intro e he; cases he)
  · intro b hb
    rcases hb with hb | hb | hb | hb
    · exact .inl (.inl hb)
    · exact .inl (.inr (.inl hb))
    · exact .inl (.inr (.inr (.inl hb)))
    · simp [Value.ownBlock] at hb
end Go.Proofs.Ytkdphgcbecldbaa
/- The disk: some, store. -/
namespace Go.Proofs.Ytkdphgcbecldbaa
open Go.RowKit
theorem wpList_copied (w : World) {ops : Array Oper} {rest : List Oper} {o : Oper} {a : Act} {Q : Exit → Act → World → Prop} (hgd : o.guard = none) (d s : Operand) (t t' : TypeId)
    (ho : o.op = .call { callee := .builtin .copy, args := #[d, s], argTypes := #[t, t'] }) (v u : Value) (hd : a.eval d = v) (hs : a.eval s = u) {v' : Value} {w' : World}
    (hr : (Builtin.copy_ #[t, t'] o.type #[v, u]).run Try.prog w = .ok v' w') (h : wpList Try.prog ops Q rest (a.put o.dst v') w') : wpList Try.prog ops Q (o :: rest) a w :=
  wpList_plain hgd fun _ hK => by
    unfold Oper.wp execOp
    simp only [ho, resolve, invoke, builtin, Sem.run_bind, Sem.run_pure, Result.andThen_ok, List.map_toArray, List.map_cons, List.map_nil, hd, hs, hr]
    exact hK _ _ h
set_option maxRecDepth 100000 in
set_option maxHeartbeats 1000000 in
theorem some_any (x bb o many : Nat) (l : List Nat) (w : World) (hm : many ≤ 8) (hl : l.length = 256) (hx : w.rangeAt x 1 (bvs l)) (hT : w.there bb o 256) :
    Calls Try.prog 78 #[.pointer (some ⟨x, 0, none⟩), .pointer (some ⟨bb, o, none⟩), .int .i64 many] w fun r w' => r = .returned (.tuple #[]) ∧ w' = w.drew.setCells bb o (bvs (l.take (32 * many))) := by
  have hrun := run_copy_cells (P := Try.prog) w.drew 24 24 3 5 bb o (many * 32) 256 ⟨x, 1, none⟩ 256 256 (bvs (l.take (32 * many))) Try.underlying24 size5
    (by rw [bvs_len, List.length_take, hl, Nat.mul_comm]; exact Nat.min_comm _ _)
    (fun j v hv => by
      rw [Addr.add_mid]
      refine (World.rangeAt_drew _ _ _ _).2 hx j v ?_
      unfold bvs at hv ⊢
      rw [List.map_take, List.getElem?_take] at hv
      split at hv
      · exact hv
      · cases hv)
    (fun j hj => ((World.there_drew _ _ _ _).2 hT j (by rw [bvs_len, List.length_take] at hj; omega)).1)
    (fun j hj => ((World.there_drew _ _ _ _).2 hT j (by rw [bvs_len, List.length_take] at hj; omega)).2)
    (bvs_one _)
  have HR := Lib.hid hrun
  clear hrun hx hT
  have i1 : IntKind.i64.wrap ((many : Int) * 32) = (many : Int) * 32 := IntWalk.i64_in _ (by omega)
  have i2 : (0 : Int) ≤ (many : Int) * 32 := by omega
  have i3 : (many : Int) * 32 ≤ 256 := by omega
  have i4 : ((many : Int) * 32).toNat = many * 32 := by omega
  go_enter Try.func78, Try.ntmps78
  go_wp2_with fail
  go_still_tail 9, (by kernel_rfl)
  change wpList _ _ _ _ _ w.drew
  go_wp2_with (refine wpList_copied _ (o := ⟨some 15, _, _, _, _, _⟩) rfl (.tmp 10) (.tmp 14) 24 24 rfl _ _ rfl rfl HR.out ?_)
  go_end0
  exact ⟨rfl, rfl⟩
end Go.Proofs.Ytkdphgcbecldbaa
