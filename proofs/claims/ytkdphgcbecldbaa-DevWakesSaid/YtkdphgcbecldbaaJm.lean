/- Texts of the proof, one behind the other: RefC, RefD, Open, Open22. -/
import Derived.Test.YtkdphgcbecldbaaJl
import Derived.Maps.AppendAt
import Derived.Test.YtkdphgcbecldbaaJk
import Derived.Test.YtkdphgcbecldbaaRows
import Derived.Test.YtkdphgcbecldbaaJa
import Derived.ProofKit
import Derived.OpenShut
import Derived.ShutString
import Derived.ChangeOld
import Derived.SizedLaws
import Derived.Deep.Matrix
/- The document's disk: its waits; there (80), turn (81), Arm (66), Crash (67), Hurts (71). -/
namespace Go.Proofs.Ytkdphgcbecldbaa
open Go.RowKit
theorem rrow_snoc (ws : List (Nat × List Nat)) (wl : List Value) (h : wl.length = ws.length) (n : Nat) (l : List Nat) (v : Value) : rrow (ws ++ [(n, l)]) (wl ++ [v]) = rrow ws wl ++ [.int .i64 (n : Int), v] := by
  unfold rrow
  rw [List.zip_append h.symm, List.map_append, List.flatten_append]
  simp
/-- what waits is others -/
theorem Rsk.waits {w w3 : World} {R : Rk} (h : Rsk w R) (hk : ∀ (b : Nat) (cur : Array Value) (t : TypeId), w.heap[b]? = some (.cells cur t (0, 0)) → t ≠ 130 → w3.heap[b]? = w.heap[b]?) (hsz : w.heap.size ≤ w3.heap.size) {v : Value} {ws' : List (Nat × List Nat)} {wl' : List Value}
    (own : w3.ownsRow R.base 130 2 v ws'.length (rrow ws' wl')) (hl : wl'.length = ws'.length) (hws : ∀ i (hi : i < ws'.length), ws'[i].1 < R.k ∧ RB w3 (wl'[i]'(by rw [hl]; exact hi)) ws'[i].2) :
    Rsk (w3.setCell ⟨R.r, 1, none⟩ v) { R with wv := v, ws := ws', wl := wl' } := by
  have hrow3 : w3.heap[R.r]? = some (.cells R.row 103 (0, 0)) := (hk _ _ _ h.row (by decide)).trans h.row
  have hoff : ∀ (b : Nat) (cur : Array Value) (t : TypeId), w3.heap[b]? = some (.cells cur t (0, 0)) → t ≠ 103 → (w3.setCell ⟨R.r, 1, none⟩ v).heap[b]? = w3.heap[b]? := fun b cur t hb ht => setCell_off v (ne_of_type hb hrow3 ht)
  have hrb : ∀ v' l, RB w3 v' l → RB (w3.setCell ⟨R.r, 1, none⟩ v) v' l := fun v' l hb => hb.keep fun g cur _ hg => hoff g cur 5 hg (by decide)
  refine ⟨h.kpos, h.kle, setCell_at hrow3 v, ?_, fun i hi => hrb _ _ ((h.blk i hi).keep fun g cur _ hg => hk g cur 5 hg (by decide)), ?_, hl, fun i hi => ⟨(hws i hi).1, hrb _ _ (hws i hi).2⟩, h.o1, h.o2, ?_, h.arm⟩
  · obtain ⟨cur, hc, hr⟩ := h.cells
    have hc3 := (hk _ _ _ hc (by decide)).trans hc
    exact ⟨cur, (hoff _ _ 105 hc3 (by decide)).trans hc3, hr⟩
  · obtain ⟨hl, h1 | ⟨g, cap, cur, hv, hg, hh, hr⟩⟩ := own
    · exact ⟨hl, .inl h1⟩
    · exact ⟨hl, .inr ⟨g, cap, cur, hv, hg, (hoff g cur 130 hh (by decide)).trans hh, hr⟩⟩
  · have := h.o3
    simp only [World.setCell, Array.size_modify]
    omega
theorem Rv.drop {w : World} {R : Rk} (h : Rsk w R) : Rv w R (w.setCell ⟨R.r, 1, none⟩ (.slice none 0 0)) { R with wv := .slice none 0 0, ws := [], wl := [] } := by
  refine ⟨(Kp.refl _ _).setCell (.inl (.inl rfl)) _, ?_, fun b hb => .inl ?_, fun b hb => .inl ?_, rfl, rfl⟩
  · exact h.waits (fun _ _ _ _ _ => rfl) (Nat.le_refl _) (World.ownsRow_nil _ _ _ _) rfl (fun i hi => absurd hi (by simp))
  · rcases hb with (hb | hb | hb) | hb | ⟨v, hv, _⟩
    · exact .inl (.inl hb)
    · exact .inl (.inr (.inl hb))
    · simp [Value.ownBlock] at hb
    · exact .inr (.inl hb)
    · cases hv
  · rcases hb with hb | hb | hb
    · exact .inl hb
    · exact .inr (.inl hb)
    · simp [Value.ownBlock] at hb
/-- a write is laid behind the others -/
theorem Rv.app {w0 w w3 : World} {R0 R : Rk} {o : Obj} {n : Nat} {l : List Nat} {v v' : Value} (h0 : Rv w0 R0 w R) (hn : n < R.k) (hv : RB w v l) (hnew : ∀ b, v.ownBlock = some b → w0.heap.size ≤ b)
    (own : w3.ownsRow R.base 130 2 v' (R.ws.length + 1) (rrow R.ws R.wl ++ [.int .i64 (n : Int), v])) (hg : (w.alloc o).grownBy w3 R.wv.ownBlock) (hat : v'.ownBlock = R.wv.ownBlock ∨ v'.ownBlock = some (w.heap.size + 1)) :
    Rv w0 R0 (w3.setCell ⟨R.r, 1, none⟩ v') { R with wv := v', ws := R.ws ++ [(n, l)], wl := R.wl ++ [v] } := by
  have h := h0.sk
  have hk : ∀ (b : Nat) (cur : Array Value) (t : TypeId), w.heap[b]? = some (.cells cur t (0, 0)) → t ≠ 130 → w3.heap[b]? = w.heap[b]? := fun b cur t hb ht => by
    have hlt := lt_of_heap hb
    have e1 : (w.alloc o).heap[b]? = w.heap[b]? := Below.heap_alloc w o b hlt
    refine (hg.block b (by rw [World.size_alloc]; omega) (fun e => ?_)).trans e1
    obtain ⟨_, cur', hc'⟩ := h.own_ge e.symm
    exact ne_of_type hb hc' ht rfl
  have hsz : w.heap.size ≤ w3.heap.size := by have := hg.size; rw [World.size_alloc] at this; omega
  have hk0 : Kp R.fp w w3 := ⟨hg.os, hg.tape, hg.output, hsz, fun b hb hn => (hg.block b (by rw [World.size_alloc]; omega) (fun e => hn (.inr (.inr e.symm)))).trans (Below.heap_alloc w o b hb)⟩
  refine ⟨h0.kp.trans (hk0.setCell (.inl (.inl rfl)) _) h0.fp, ?_, fun b hb => ?_, fun b hb => ?_, h0.r, h0.k⟩
  · have e1 := rrow_snoc R.ws R.wl h.wlen n l v
    refine h.waits hk hsz (ws' := R.ws ++ [(n, l)]) (wl' := R.wl ++ [v]) (by rw [e1, List.length_append]; exact own) (by simp [h.wlen]) (fun i hi => ?_)
    have hrb : ∀ v' l, RB w v' l → RB w3 v' l := fun v' l hb => hb.keep fun g cur _ hg => hk g cur 5 hg (by decide)
    by_cases e : i < R.ws.length
    · rw [List.getElem_append_left e, List.getElem_append_left (by rw [h.wlen]; exact e)]
      exact ⟨(h.wsn i e).1, hrb _ _ (h.wsn i e).2⟩
    · have e' : i = R.ws.length := by rw [List.length_append, List.length_singleton] at hi; omega
      subst e'
      rw [List.getElem_append_right (Nat.le_refl _), List.getElem_append_right (by rw [h.wlen]; exact Nat.le_refl _)]
      simp only [Nat.sub_self, List.getElem_singleton, h.wlen]
      exact ⟨hn, hrb _ _ hv⟩
  · have hle := h0.kp.size
    rcases hb with (hb | hb | hb) | hb | ⟨u, hu, hb⟩
    · exact h0.all b (.inl (.inl hb))
    · exact h0.all b (.inl (.inr (.inl hb)))
    · have hb' : v'.ownBlock = some b := hb
      rcases hat with e | e
      · rw [e] at hb'; exact h0.all b (.inl (.inr (.inr hb')))
      · rw [e] at hb'; injection hb' with hb'; exact .inr (by omega)
    · exact h0.all b (.inr (.inl hb))
    · rcases List.mem_append.1 hu with hu | hu
      · exact h0.all b (.inr (.inr ⟨u, hu, hb⟩))
      · rw [List.mem_singleton.1 hu] at hb; exact .inr (hnew b hb)
  · have hle := h0.kp.size
    rcases hb with hb | hb | hb
    · exact h0.fp b (.inl hb)
    · exact h0.fp b (.inr (.inl hb))
    · have hb' : v'.ownBlock = some b := hb
      rcases hat with e | e
      · rw [e] at hb'; exact h0.fp b (.inr (.inr hb'))
      · rw [e] at hb'; injection hb' with hb'; exact .inr (by omega)
theorem Rsk.c {w : World} {R : Rk} (h : Rsk w R) (j : Nat) {v : Value} (hv : R.row[j]? = some v) : w.cell? ⟨R.r, j, none⟩ = some v := (cell_of_row _ _ _ _ _ _ h.row).trans hv
theorem Rsk.c0 {w : World} {R : Rk} (h : Rsk w R) : w.cell? ⟨R.r, 0, none⟩ = some (.slice (some ⟨R.cb, 0, none⟩) R.k R.cc) := h.c 0 rfl
theorem Rsk.c1 {w : World} {R : Rk} (h : Rsk w R) : w.cell? ⟨R.r, 1, none⟩ = some R.wv := h.c 1 rfl
theorem Rsk.c2 {w : World} {R : Rk} (h : Rsk w R) : w.cell? ⟨R.r, 2, none⟩ = some (.int .i64 R.ar) := h.c 2 rfl
theorem Rsk.c3 {w : World} {R : Rk} (h : Rsk w R) : w.cell? ⟨R.r, 3, none⟩ = some (.int .i64 R.tu) := h.c 3 rfl
theorem Rsk.c4 {w : World} {R : Rk} (h : Rsk w R) : w.cell? ⟨R.r, 4, none⟩ = some (.int .i64 R.cr) := h.c 4 rfl
theorem Rsk.c5 {w : World} {R : Rk} (h : Rsk w R) : w.cell? ⟨R.r, 5, none⟩ = some (.bool R.dn) := h.c 5 rfl
theorem Rsk.f {w : World} {R : Rk} (h : Rsk w R) (j : Nat) : w.frozen? ⟨R.r, j, none⟩ = false := by simp [World.frozen?, h.row]
set_option maxRecDepth 100000 in
set_option maxHeartbeats 1000000 in
theorem rthere_any (R : Rk) (n : Int) (w : World) (h : Rsk w R) : Calls Try.prog 80 #[.pointer (some ⟨R.r, 0, none⟩), .int .i64 n] w fun r w' => r = .returned (.bool (decide (0 ≤ n ∧ n < R.k))) ∧ w' = w := by
  have h0 := h.c0
  clear h
  by_cases h1 : 0 ≤ n
  · by_cases h2 : n < R.k
    · rw [decide_eq_true ⟨h1, h2⟩]
      go_enter Try.func80, Try.ntmps80
      go_wp2_with fail
      go_ret
      exact ⟨rfl, rfl⟩
    · rw [decide_eq_false (fun h => h2 h.2)]
      have h3 : (R.k : Int) ≤ n := by omega
      go_enter Try.func80, Try.ntmps80
      go_wp2_with fail
      go_ret
      exact ⟨rfl, rfl⟩
  · rw [decide_eq_false (fun h => h1 h.1)]
    go_enter Try.func80, Try.ntmps80
    go_wp2_with fail
    go_ret
    exact ⟨rfl, rfl⟩
def Rk.fall (R : Rk) : Rk := { R with ar := 0, dn := true, cr := wrap64 (R.cr + 1) }
def Rk.turn (R : Rk) : Rk := { R with ar := max (R.ar - 1) 0, tu := wrap64 (R.tu + 1) }
set_option maxRecDepth 100000 in
set_option maxHeartbeats 1000000 in
theorem rturn_no (R : Rk) (w : World) (h : Rsk w R) (h1 : R.ar = 1) : Calls Try.prog 81 #[.pointer (some ⟨R.r, 0, none⟩)] w fun r w' => r = .returned (.bool false) ∧ Rv w R w' R.fall := by
  have c2 := h.c2
  have c4 := h.c4
  have c5 := h.c5
  have f := h.f
  rw [h1] at c2
  have HH := Lib.hid h
  clear h h1
  go_enter Try.func81, Try.ntmps81
  go_wp2_with fail
  go_ret
  refine ⟨rfl, ?_⟩
  have m1 := Rv.put (R' := { R with ar := 0 }) HH.out 2 (.int .i64 0) rfl (by simp) rfl
  have m2 := m1.trans (Rv.put (R' := { R with ar := 0, dn := true }) m1.sk 5 (.bool true) rfl (by simp) rfl)
  exact m2.trans (Rv.put (R' := R.fall) m2.sk 4 (.int .i64 (wrap64 (R.cr + 1))) rfl (by simp [Rk.fall]) rfl)
set_option maxRecDepth 100000 in
set_option maxHeartbeats 1000000 in
theorem rturn_yes (R : Rk) (w : World) (h : Rsk w R) (h1 : ¬ R.ar = 1) : Calls Try.prog 81 #[.pointer (some ⟨R.r, 0, none⟩)] w fun r w' => r = .returned (.bool true) ∧ Rv w R w' R.turn := by
  have c2 := h.c2
  have c3 := h.c3
  have f := h.f
  have ha := h.arm
  have HH := Lib.hid h
  clear h
  go_enter Try.func81, Try.ntmps81
  go_wp2_with fail
  · go_ret
    refine ⟨rfl, ?_⟩
    have m1 := Rv.put (R' := { R with ar := 0 }) HH.out 2 (.int .i64 0) rfl (by simp) rfl
    exact m1.trans (Rv.put (R' := R.turn) m1.sk 3 (.int .i64 (wrap64 (R.tu + 1))) (by rw [show R.turn = { R with ar := 0, tu := wrap64 (R.tu + 1) } by unfold Rk.turn; rw [show max (R.ar - 1) 0 = 0 by omega]]; rfl) (by unfold Rk.turn; simp only; omega) rfl)
  · go_ret
    refine ⟨rfl, ?_⟩
    have m1 := Rv.put (R' := { R with ar := R.ar - 1 }) HH.out 2 (.int .i64 (R.ar - 1)) rfl (by simp only; omega) rfl
    exact m1.trans (Rv.put (R' := R.turn) m1.sk 3 (.int .i64 (wrap64 (R.tu + 1))) (by rw [show R.turn = { R with ar := R.ar - 1, tu := wrap64 (R.tu + 1) } by unfold Rk.turn; rw [show max (R.ar - 1) 0 = R.ar - 1 by omega]]; rfl) (by unfold Rk.turn; simp only; omega) rfl)
set_option maxRecDepth 100000 in
set_option maxHeartbeats 1000000 in
theorem rcrash_ok (R : Rk) (w : World) (h : Rsk w R) (hd : R.dn = false) : Calls Try.prog 67 #[.pointer (some ⟨R.r, 0, none⟩)] w fun r w' => r = .returned (.int .i64 0) ∧ Rv w R w' { R with dn := true, cr := wrap64 (R.cr + 1) } := by
  have c4 := h.c4
  have c5 := h.c5
  have f := h.f
  rw [hd] at c5
  have HH := Lib.hid h
  clear h hd
  go_enter Try.func67, Try.ntmps67
  go_wp2_with fail
  go_ret
  refine ⟨rfl, ?_⟩
  have ha := HH.out.arm
  have m1 := Rv.put (R' := { R with dn := true }) HH.out 5 (.bool true) rfl ha rfl
  exact m1.trans (Rv.put (R' := { R with dn := true, cr := wrap64 (R.cr + 1) }) m1.sk 4 (.int .i64 (wrap64 (R.cr + 1))) rfl ha rfl)
set_option maxRecDepth 100000 in
set_option maxHeartbeats 1000000 in
theorem rcrash_down (R : Rk) (w : World) (h : Rsk w R) (hd : R.dn = true) : Calls Try.prog 67 #[.pointer (some ⟨R.r, 0, none⟩)] w fun r w' => r = .returned (.int .i64 11) ∧ w' = w := by
  have c5 := h.c5
  rw [hd] at c5
  clear h hd
  go_enter Try.func67, Try.ntmps67
  go_wp2_with fail
  go_ret
  exact ⟨rfl, rfl⟩
set_option maxRecDepth 100000 in
set_option maxHeartbeats 1000000 in
theorem rarm_ok (R : Rk) (n : Int) (w : World) (h : Rsk w R) (hd : R.dn = false) (hn : n ≤ 9223372036854775807) : Calls Try.prog 66 #[.pointer (some ⟨R.r, 0, none⟩), .int .i64 n] w fun r w' => r = .returned (.tuple #[]) ∧ Rv w R w' { R with ar := max n 0 } := by
  have c2 := h.c2
  have c5 := h.c5
  have f := h.f
  rw [hd] at c5
  have HH := Lib.hid h
  clear h hd
  by_cases h0 : n < 0
  · have hm := Rv.put (R' := { R with ar := max n 0 }) HH.out 2 (.int .i64 0) (by rw [show max n 0 = 0 by omega]; rfl) (by simp only; omega) rfl
    have HM := Lib.hid hm
    clear hm
    go_enter Try.func66, Try.ntmps66
    go_wp2_with fail
    go_end0
    exact ⟨rfl, HM.out⟩
  · have hm := Rv.put (R' := { R with ar := max n 0 }) HH.out 2 (.int .i64 n) (by rw [show max n 0 = n by omega]; rfl) (by simp only; omega) rfl
    have HM := Lib.hid hm
    clear hm
    go_enter Try.func66, Try.ntmps66
    go_wp2_with fail
    go_end0
    exact ⟨rfl, HM.out⟩
set_option maxRecDepth 100000 in
set_option maxHeartbeats 1000000 in
theorem rarm_down (R : Rk) (n : Int) (w : World) (h : Rsk w R) (hd : R.dn = true) : Calls Try.prog 66 #[.pointer (some ⟨R.r, 0, none⟩), .int .i64 n] w fun r w' => r = .returned (.tuple #[]) ∧ w' = w := by
  have c5 := h.c5
  rw [hd] at c5
  clear h hd
  go_enter Try.func66, Try.ntmps66
  go_wp2_with fail
  go_end0
  exact ⟨rfl, rfl⟩
end Go.Proofs.Ytkdphgcbecldbaa
/- The document's disk: Hurts (71), Stored (72), Read (61). -/
namespace Go.Proofs.Ytkdphgcbecldbaa
open Go.RowKit
def Rk.hurts (R : Rk) (i : Nat) : Nat := ((List.range i).filter R.hu).length
theorem rhurts_succ (R : Rk) (i : Nat) : R.hurts (i + 1) = R.hurts i + if R.hu i = true then 1 else 0 := by
  unfold Rk.hurts
  rw [List.range_succ, List.filter_append, List.length_append]
  by_cases h : R.hu i = true
  · rw [if_pos h, List.filter_cons_of_pos h]; rfl
  · rw [if_neg h, List.filter_cons_of_neg h]; rfl
theorem rhurts_le (R : Rk) (i : Nat) : R.hurts i ≤ i := by
  unfold Rk.hurts
  exact Nat.le_trans (List.length_filter_le _ _) (by simp)
theorem Rsk.cv {w : World} {R : Rk} (h : Rsk w R) {i : Nat} (hi : i < R.k) : w.cell? ⟨R.cb, i * 2, none⟩ = some (R.vl i) ∧ w.cell? ⟨R.cb, i * 2 + 1, none⟩ = some (.bool (R.hu i)) ∧ (∀ j, w.frozen? ⟨R.cb, j, none⟩ = false) := by
  obtain ⟨cur, hc, hs, hx⟩ := h.cells
  exact ⟨(cell_of_row _ _ _ _ _ _ hc).trans (hx i hi).1, (cell_of_row _ _ _ _ _ _ hc).trans (hx i hi).2, fun j => by simp [World.frozen?, hc]⟩
set_option maxRecDepth 100000 in
set_option maxHeartbeats 2000000 in
theorem rhurts_ok (R : Rk) (w : World) (h : Rsk w R) : Calls Try.prog 71 #[.pointer (some ⟨R.r, 0, none⟩)] w fun r w' => r = .returned (.int .i64 (R.hurts R.k : Nat)) ∧ w' = w := by
  have c0 := h.c0
  have hk1 := h.kpos
  have hk2 := h.kle
  have HH := Lib.hid h
  clear h
  go_enter Try.func71, Try.ntmps71
  go_wp2_with fail
  go_loopw [3, 4] (fun s i wr => ∃ k : Nat, k ≤ R.k ∧ i = .int .i64 k ∧ s = .int .i64 (R.hurts k : Nat) ∧ wr = w) (fun _ i _ => R.k - (intOf i).toNat)
  case atStart => exact ⟨0, by omega, rfl, rfl, rfl⟩
  case round =>
    obtain ⟨k, hk, rfl, rfl, rfl⟩ := hrel
    by_cases hlt : k < R.k
    · have hc := (HH.out.cv hlt).2.1
      have hH := rhurts_succ R k
      have hle := rhurts_le R k
      have b1 : (0 : Int) ≤ (k : Int) := by omega
      have b2 : (k : Int) < (R.k : Int) := by omega
      cases hu : R.hu k with
      | true =>
        rw [hu] at hc hH
        simp only [if_true] at hH
        have HX := Lib.hid hH
        clear hH
        go_wp2_with fail
        go_roundw
        case rel => exact ⟨k + 1, by omega, by go_num, by rw [HX.out]; exact ⟨by rw [Int.natCast_add]; rfl, trivial⟩⟩
        case measure => simp [intOf]; omega
      | false =>
        rw [hu] at hc hH
        simp only [Bool.false_eq_true, if_false, Nat.add_zero] at hH
        have HX := Lib.hid hH
        clear hH
        go_wp2_with fail
        go_roundw
        case rel => exact ⟨k + 1, by omega, by go_num, by rw [HX.out]; exact ⟨rfl, trivial⟩⟩
        case measure => simp [intOf]; omega
    · have hkk : k = R.k := by omega
      have HK := Lib.hid hkk
      clear hkk
      go_wp2_with fail
      go_ret
      exact ⟨by rw [← HK.out]; rfl, rfl⟩
/-- a copy of a block's bytes: a new slice -/
def Cp (w w' : World) (v : Value) (l : List Nat) : Prop := Gr w w' ∧ RB w' v l ∧ ∀ b, v.ownBlock = some b → w.heap.size ≤ b
theorem cp_of {w w' : World} {v : Value} {l : List Nat} (hl : l.length = 256) (hs : Small l) (own : w'.ownsRow w.heap.size 5 1 v 256 (bvs l)) (hg : Gr w w') : Cp w w' v l := by
  rcases own.2 with ⟨_, h0⟩ | ⟨g, cap, cur, hv, hb, hh, hle, hc1, hc2, hr⟩
  · omega
  · refine ⟨hg, ⟨g, cap, cur, hv, hle, hc1, hh, by rw [Nat.mul_one] at hr; exact hr, hl, hs⟩, fun b hb' => ?_⟩
    rw [hv] at hb'
    have e : g = b := by simpa [Value.ownBlock] using hb'
    omega
theorem empty_own (w : World) : (w.alloc (.cells #[] 5)).ownsRow w.heap.size 5 1 (.slice (some ⟨w.heap.size, 0, none⟩) 0 0) 0 [] :=
  ⟨rfl, .inr ⟨w.heap.size, 0, #[], rfl, Nat.le_refl _, heap_alloc_new w _, Nat.le_refl _, Nat.zero_le _, rfl, rfl⟩⟩
set_option maxRecDepth 100000 in
set_option maxHeartbeats 2000000 in
theorem rstored_ok (R : Rk) (n : Nat) (w : World) (h : Rsk w R) (hn : n < R.k) : Calls Try.prog 72 #[.pointer (some ⟨R.r, 0, none⟩), .int .i64 n] w fun r w' => ∃ v, r = .returned v ∧ Cp w w' v (R.bl n) := by
  have c0 := h.c0
  have cn := (h.cv hn).1
  obtain ⟨g, c, hv, hc1, hc2, hbs⟩ := (h.blk n hn).bs
  rw [hv] at cn
  have b1 : (0 : Int) ≤ (n : Int) := by omega
  have b2 : (n : Int) < (R.k : Int) := by omega
  have HT := Lib.hid (rthere_any R n w h)
  have hd : decide (0 ≤ (n : Int) ∧ (n : Int) < R.k) = true := decide_eq_true ⟨b1, b2⟩
  have HD := Lib.hid hd
  have HBS := Lib.hid hbs
  have hA := h.gr (Gr.at_alloc w (.cells #[] 5))
  have c0a := hA.c0
  have cna := (hA.cv hn).1
  rw [hv] at cna
  have HL : Hid ((bvs (R.bl n)).length = 256) := by show _ = _; rw [bvs_len]; exact hbs.1.symm
  have HNEWS := Lib.hid (fun j u hu => bs_cells (bs_gr hbs (Gr.at_alloc w (.cells #[] 5)) (Nat.le_refl _)) ⟨g, 0, none⟩ rfl j u hu)
  have HOWN := Lib.hid (empty_own w)
  have HSM : Hid (Small (R.bl n)) := hbs.2.1
  clear hA
  obtain ⟨i5, hi5, hz5, hs5, hy5⟩ := info_parts info5
  have I5 := Lib.hid (And.intro hi5 (And.intro hz5 (And.intro hs5 hy5)))
  clear hd hbs hv h hi5 hz5 hs5 hy5
  go_enter Try.func72, Try.ntmps72
  go_wp2_with fail
  refine HT.out.mono ?_
  rintro e w1 ⟨rfl, rfl⟩
  rw [HD.out]
  go_wp2_with (at_builtin; refine wpList_append_own _ rfl (.tmp 9) (.tmp 17) 24 rfl w1.heap.size 5 i5 (.int .u8 0) 1 1 Try.underlying24 I5.out.1 I5.out.2.1 I5.out.2.2.1 I5.out.2.2.2 rfl (by decide) _ 0 [] rfl HOWN.out ⟨g, 0, none⟩ 256 c (bvs (R.bl n)) rfl ?d0 ?d1 ?d2 ?d3 ?d4 ?d5 ?_)
  case d0 => exact HL.out
  case d1 => exact HNEWS.out
  case d2 => exact bvs_one _
  case d3 => unfold maxLen; omega
  case d4 => omega
  case d5 => rw [World.size_alloc]; omega
  intro v' w3 hown3 hg3 _
  have hcp : Cp w1 w3 v' (R.bl n) := cp_of (by rw [← bvs_len]; exact HL.out) HSM.out hown3 ((Gr.at_alloc w1 _).grown hg3 (by rw [World.size_alloc]; omega) (fun q hq => by cases hq; exact Nat.le_refl _))
  have HCP := Lib.hid hcp
  clear hown3 hg3 hcp
  go_wp2_with fail
  go_ret
  exact ⟨_, rfl, HCP.out⟩
set_option maxRecDepth 100000 in
set_option maxHeartbeats 2000000 in
theorem rstored_no (R : Rk) (n : Int) (w : World) (h : Rsk w R) (hn : n < 0 ∨ (R.k : Int) ≤ n) : Calls Try.prog 72 #[.pointer (some ⟨R.r, 0, none⟩), .int .i64 n] w fun r w' => r = .returned (.slice none 0 0) ∧ w' = w := by
  have HT := Lib.hid (rthere_any R n w h)
  have HD := Lib.hid (decide_eq_false (show ¬ (0 ≤ n ∧ n < R.k) by omega))
  clear h hn
  go_enter Try.func72, Try.ntmps72
  go_wp2_with fail
  refine HT.out.mono ?_
  rintro e w1 ⟨rfl, rfl⟩
  rw [HD.out]
  go_wp2_with fail
  go_ret
  exact ⟨rfl, rfl⟩
theorem rrow_at : ∀ (ws : List (Nat × List Nat)) (wl : List Value) (hl : wl.length = ws.length) (i : Nat) (hi : i < ws.length), (rrow ws wl)[i * 2]? = some (.int .i64 (ws[i].1 : Int)) ∧ (rrow ws wl)[i * 2 + 1]? = some (wl[i]'(by rw [hl]; exact hi))
  | [], _, _, i, hi => by cases hi
  | e :: r, [], hl, _, _ => by cases hl
  | e :: r, v :: vs, hl, i, hi => by
    have e1 : rrow (e :: r) (v :: vs) = .int .i64 (e.1 : Int) :: v :: rrow r vs := by unfold rrow; rw [List.zip_cons_cons, List.map_cons, List.flatten_cons]; rfl
    rw [e1]
    cases i with
    | zero => exact ⟨rfl, rfl⟩
    | succ i =>
      rw [show (i + 1) * 2 = i * 2 + 1 + 1 by omega]
      exact rrow_at r vs (by simpa using hl) i (by simpa using hi)
theorem Rsk.wait {w : World} {R : Rk} (h : Rsk w R) (hn : 0 < R.ws.length) : ∃ g cap, R.wv = .slice (some ⟨g, 0, none⟩) R.ws.length cap ∧ ∀ i (hi : i < R.ws.length), w.cell? ⟨g, i * 2, none⟩ = some (.int .i64 (R.ws[i].1 : Int)) ∧ w.cell? ⟨g, i * 2 + 1, none⟩ = some (R.wl[i]'(by rw [h.wlen]; exact hi)) := by
  obtain ⟨hl, ⟨_, h0⟩ | ⟨g, cap, cur, hv, hg, hh, hle, hc1, hc2, hr⟩⟩ := h.own
  · omega
  · refine ⟨g, cap, hv, fun i hi => ?_⟩
    have hx := rrow_at R.ws R.wl h.wlen i hi
    have ht : ∀ j v, j < R.ws.length * 2 → (rrow R.ws R.wl)[j]? = some v → w.cell? ⟨g, j, none⟩ = some v := fun j v hj hv => by
      rw [cell_of_row w g _ _ _ _ hh]
      rw [← hr, List.getElem?_take, if_pos hj, Array.getElem?_toList] at hv
      exact hv
    exact ⟨ht _ _ (by omega) hx.1, ht _ _ (by omega) hx.2⟩
theorem Rsk.wvs {w : World} {R : Rk} (h : Rsk w R) : ∃ A cap, R.wv = .slice A R.ws.length cap := by
  obtain ⟨hl, ⟨hv, h0⟩ | ⟨g, cap, cur, hv, _⟩⟩ := h.own
  · exact ⟨none, 0, by rw [hv, h0]⟩
  · exact ⟨_, cap, hv⟩
theorem see_take (ws : List (Nat × List Nat)) (n : Nat) (b : List Nat) (k : Nat) (h : k < ws.length) : see (ws.take (k + 1)) n b = if ws[k].1 = n then ws[k].2 else see (ws.take k) n b := by
  rw [List.take_succ_eq_append_getElem h, see_append]
  rfl
set_option maxRecDepth 100000 in
set_option maxHeartbeats 2000000 in
theorem rread_ok (R : Rk) (n : Nat) (w : World) (h : Rsk w R) (hd : R.dn = false) (hn : n < R.k) (hws : R.ws.length ≤ 1000000) : Calls Try.prog 61 #[.pointer (some ⟨R.r, 0, none⟩), .int .i64 n] w fun r w' => ∃ v, r = .returned (.tuple #[v, .int .i64 0]) ∧ Cp w w' v (see R.ws n (R.bl n)) := by
  have c0 := h.c0
  have c1 := h.c1
  have c5 := h.c5
  rw [hd] at c5
  have cn := (h.cv hn).1
  have hb0 := h.blk n hn
  obtain ⟨g, c, hv, hc1, hc2, hbs⟩ := hb0.bs
  rw [hv] at cn
  obtain ⟨A, cap, hwv⟩ := h.wvs
  rw [hwv] at c1
  have HB0 : Hid (RB w (.slice (some ⟨g, 0, none⟩) 256 c) (R.bl n)) := by show RB _ _ _; rw [← hv]; exact hb0
  have b1 : (0 : Int) ≤ (n : Int) := by omega
  have b2 : (n : Int) < (R.k : Int) := by omega
  have HT := Lib.hid (rthere_any R n w h)
  have HD := Lib.hid (decide_eq_true (show 0 ≤ (n : Int) ∧ (n : Int) < R.k from ⟨b1, b2⟩))
  have HH := Lib.hid h
  have HWV := Lib.hid hwv
  obtain ⟨i5, hi5, hz5, hs5, hy5⟩ := info_parts info5
  have I5 := Lib.hid (And.intro hi5 (And.intro hz5 (And.intro hs5 hy5)))
  clear hd hbs hv h hi5 hz5 hs5 hy5 hb0 hwv
  go_enter Try.func61, Try.ntmps61
  go_wp2_with fail
  refine HT.out.mono ?_
  rintro e w1 ⟨rfl, rfl⟩
  rw [HD.out]
  go_wp2_with fail
  go_loopw [6, 7] (fun b i wr => ∃ (k g' c' : Nat), k ≤ R.ws.length ∧ i = .int .i64 k ∧ b = .slice (some ⟨g', 0, none⟩) 256 c' ∧ Hid (RB w1 (.slice (some ⟨g', 0, none⟩) 256 c') (see (R.ws.take k) n (R.bl n))) ∧ wr = w1) (fun _ i _ => R.ws.length - (intOf i).toNat)
  case atStart => exact ⟨0, g, c, by omega, rfl, rfl, HB0, rfl⟩
  case round =>
    obtain ⟨k, g', c', hk, rfl, rfl, HB, rfl⟩ := hrel
    by_cases hlt : k < R.ws.length
    · obtain ⟨gw, cw, hwv2, hcells⟩ := HH.out.wait (by omega)
      obtain ⟨hx1, hx2⟩ := hcells k hlt
      have hgc := hwv2.symm.trans HWV.out
      injection hgc with e1 _ e3
      subst e1
      subst e3
      obtain ⟨hx3, hx4⟩ := HH.out.wsn k hlt
      obtain ⟨g2, c2, hv2, _⟩ := hx4.bs
      rw [hv2] at hx2 hx4
      have HS := Lib.hid (see_take R.ws n (R.bl n) k hlt)
      have HX4 := Lib.hid hx4
      clear hx4 hcells hwv2 hv2
      generalize R.ws[k] = e at *
      have b3 : (0 : Int) ≤ (k : Int) := by omega
      have b4 : (k : Int) < (R.ws.length : Int) := by omega
      by_cases he : e.1 = n
      · have heb : ((e.1 : Int) == (n : Int)) = true := by simp [he]
        have HE := Lib.hid he
        clear he
        go_wp2_with fail
        go_roundw
        case rel => exact ⟨k + 1, g2, c2, by omega, by go_num, rfl, by rw [HS.out, if_pos HE.out]; exact HX4.out, trivial⟩
        case measure => simp [intOf]; omega
      · have heb : ((e.1 : Int) == (n : Int)) = false := by simp; omega
        have HE := Lib.hid he
        clear he
        go_wp2_with fail
        go_roundw
        case rel => exact ⟨k + 1, g', c', by omega, by go_num, rfl, by rw [HS.out, if_neg HE.out]; exact HB, trivial⟩
        case measure => simp [intOf]; omega
    · have htk : R.ws.take k = R.ws := List.take_of_length_le (by omega)
      rw [htk] at HB
      clear htk
      obtain ⟨g2, c2, hv2, hcc1, hcc2, hbs⟩ := HB.out.bs
      injection hv2 with e1 _ e3
      injection e1 with e1
      injection e1 with e1
      subst e1
      subst e3
      have HL : Hid ((bvs (see R.ws n (R.bl n))).length = 256) := by show _ = _; rw [bvs_len]; exact hbs.1.symm
      have HNEWS := Lib.hid (fun j u hu => bs_cells (bs_gr hbs (Gr.at_alloc wr (.cells #[] 5)) (Nat.le_refl _)) ⟨g', 0, none⟩ rfl j u hu)
      have HOWN := Lib.hid (empty_own wr)
      have HSM : Hid (Small (see R.ws n (R.bl n))) := hbs.2.1
      clear hbs
      generalize hlz : see R.ws n (R.bl n) = lz at *
      have HLZ := Lib.hid hlz
      clear hlz
      go_wp2_with (at_builtin; refine wpList_append_own _ rfl (.tmp 51) (.tmp 52) 24 rfl wr.heap.size 5 i5 (.int .u8 0) 1 1 Try.underlying24 I5.out.1 I5.out.2.1 I5.out.2.2.1 I5.out.2.2.2 rfl (by decide) _ 0 [] rfl HOWN.out ⟨g', 0, none⟩ 256 c' (bvs lz) rfl ?d0 ?d1 ?d2 ?d3 ?d4 ?d5 ?_)
      case d0 => exact HL.out
      case d1 =>
        intro j u hu
        have := HNEWS.out j u hu
        rw [Addr.add_lit, Nat.zero_add] at this
        exact this
      case d2 => exact bvs_one _
      case d3 => unfold maxLen; omega
      intro v' w3 hown3 hg3 _
      have hcp : Cp wr w3 v' lz := cp_of (by rw [← bvs_len]; exact HL.out) HSM.out hown3 ((Gr.at_alloc wr _).grown hg3 (by rw [World.size_alloc]; omega) (fun q hq => by cases hq; exact Nat.le_refl _))
      have HCP := Lib.hid hcp
      clear hown3 hg3 hcp
      go_wp2_with fail
      go_ret2
      exact ⟨_, rfl, by rw [HLZ.out]; exact HCP.out⟩
set_option maxRecDepth 100000 in
set_option maxHeartbeats 2000000 in
theorem rread_down (R : Rk) (n : Int) (w : World) (h : Rsk w R) (hd : R.dn = true) : Calls Try.prog 61 #[.pointer (some ⟨R.r, 0, none⟩), .int .i64 n] w fun r w' => r = .returned (.tuple #[.slice none 0 0, .int .i64 11]) ∧ w' = w := by
  have c5 := h.c5
  rw [hd] at c5
  clear h hd
  go_enter Try.func61, Try.ntmps61
  go_wp2_with fail
  go_ret2
  exact ⟨rfl, rfl⟩
set_option maxRecDepth 100000 in
set_option maxHeartbeats 2000000 in
theorem rread_out (R : Rk) (n : Int) (w : World) (h : Rsk w R) (hd : R.dn = false) (hn : n < 0 ∨ (R.k : Int) ≤ n) : Calls Try.prog 61 #[.pointer (some ⟨R.r, 0, none⟩), .int .i64 n] w fun r w' => r = .returned (.tuple #[.slice none 0 0, .int .i64 2]) ∧ w' = w := by
  have c5 := h.c5
  rw [hd] at c5
  have HT := Lib.hid (rthere_any R n w h)
  have HD := Lib.hid (decide_eq_false (show ¬ (0 ≤ n ∧ n < R.k) by omega))
  clear h hn hd
  go_enter Try.func61, Try.ntmps61
  go_wp2_with fail
  refine HT.out.mono ?_
  rintro e w1 ⟨rfl, rfl⟩
  rw [HD.out]
  go_wp2_with fail
  go_ret2
  exact ⟨rfl, rfl⟩
end Go.Proofs.Ytkdphgcbecldbaa
/- What came in, opened: a slice of bytes reads as a list of bytes, within the form's own reach. -/
namespace Go.Proofs.Ytkdphgcbecldbaa
open Go.ChangeShapes Go.WideShapes Go.ChangeAt Go.RowKit
open Go.ChangeMaps (open_string shut_string)

theorem own : ownKnob Try.prog.godebug = none := by kernel_rfl
theorem laidOut : laidOutB Try.prog = true := by kernel_rfl
theorem bytes5 : Try.prog.bytesOf 5 = 1 := by kernel_rfl

/-- a cell that is there lies at a plain address -/
theorem plain_of_cell {w : World} {a : Addr} {v : Value} (h : w.cell? a = some v) : a = ⟨a.block, a.off, none⟩ ∧ a.block < w.heap.size := by
  refine ⟨?_, World.block_lt_of_cell? w a h⟩
  obtain ⟨b, o, s⟩ := a
  unfold World.cell? at h
  split at h
  · cases s with
    | none => rfl
    | some s => simp at h
  · cases h
theorem bs_of_ints {W : World} {B : Nat} {x : Addr} {n c : Nat} {zs : List Int} (hn : n ≤ c) (hc : c ≤ maxLen) (hz : zs.length = c) (hcell : ∀ i, i < zs.length → W.cell? (x.add i) = some (.int .u8 (zs.getD i 0))) (hw : ∀ m ∈ zs, (Lit.int .u8 m).wf = true) (hB : W.heap.size ≤ B) :
    Bs W B ⟨some x, n, c⟩ ((zs.take n).map Int.toNat) := by
  have hwf : ∀ m ∈ zs, 0 ≤ m ∧ m < 256 := fun m hm => by
    have := hw m hm
    have h2 := bounds_u8 this
    omega
  refine ⟨by simp only [List.length_map, List.length_take]; omega, ?_, hn, by unfold maxLen at hc; exact hc, fun h0 => ?_⟩
  · intro y hy
    obtain ⟨m, hm, rfl⟩ := List.mem_map.1 hy
    have := hwf m (List.mem_of_mem_take hm)
    omega
  · simp only at h0
    have hx := hcell 0 (by omega)
    rw [Addr.add, if_pos rfl] at hx
    obtain ⟨e, hlt⟩ := plain_of_cell hx
    refine ⟨x.block, x.off, by simp only; exact congrArg some e, by omega, fun i hi => ?_⟩
    simp only at hi
    have hxi := hcell i (by omega)
    rw [e, Addr.add_lit] at hxi
    rw [hxi]
    have hi2 : i < zs.length := by omega
    have hm := hwf zs[i] (List.getElem_mem hi2)
    have e1 : ((zs.take n).map Int.toNat).getD i 0 = (zs[i]).toNat := by
      rw [List.getD_eq_getElem?_getD, List.getElem?_map, List.getElem?_take, if_pos hi, List.getElem?_eq_getElem hi2]; rfl
    have e2 : zs.getD i 0 = zs[i] := by rw [List.getD_eq_getElem?_getD, List.getElem?_eq_getElem hi2]; rfl
    unfold bv
    rw [e1, e2, Int.toNat_of_nonneg hm.1]

theorem bs_nil (W : World) (B : Nat) : Bs W B ⟨none, 0, 0⟩ [] := by
  refine ⟨rfl, ?_, Nat.le_refl _, by simp only; omega, fun h => absurd h (by simp)⟩
  intro x hx
  cases hx
theorem open24 {H : Type} {enc : TypeId × Value → H} {W : World} {ts : List TypeId} {ds : List (DataW H)} (hsz : (DataW.weightsEach Try.prog ts ds).all (· ≤ reachBytes) = true)
    {j : Nat} (ht : ts[j]? = some 24) {d : DataW H} (hd : ds[j]? = some d) {a : Option Addr} {n c : Nat} {p : List MemPlace} (h : DataW.Trod enc Try.prog W 0 (fun _ => true) true 24 (.slice a n c) d p) :
    ∃ l, Bs W W.heap.size ⟨a, n, c⟩ l ∧ c ≤ 140737488351232 ∧ (a = none → c = 0) := by
  obtain ⟨fuel, hf⟩ := h
  rcases open_ints Try.underlying24 Try.underlying5 (by kernel_rfl) hf with ⟨hcs, _⟩ | ⟨x, l, c', zs, hcs, _, hl, hm, hz, hx, hcell, hwz⟩
  · simp [Value.cells] at hcs
    obtain ⟨rfl, rfl, rfl⟩ := hcs
    exact ⟨[], bs_nil W _, by omega, fun _ => rfl⟩
  · simp [Value.cells] at hcs
    obtain ⟨rfl, rfl, rfl⟩ := hcs
    have hz' : zs.length = c := by simpa using hz
    simp only [Prod.mk.injEq] at hx
    have hr := sized_slice hsz (j := j) (t := 24) (e := 5) ht (hd.trans (congrArg some hx.1)) Try.underlying24
    rw [bytes5] at hr
    simp only [lits, List.length_map, List.length_take, List.length_drop, reachBytes] at hr
    exact ⟨_, bs_of_ints hl hm hz' hcell hwz (Nat.le_refl _), by omega, fun e => by cases e⟩
theorem nat_u32 {y : Int} (h : (Lit.int .u32 y).wf = true) : ∃ x : Nat, x < 4294967296 ∧ y = (x : Int) := by
  have := bounds_u32 h
  exact ⟨y.toNat, by omega, by omega⟩
end Go.Proofs.Ytkdphgcbecldbaa
/- What came in, opened: a slice of slices of bytes, within the form's own reach. -/
namespace Go.Proofs.Ytkdphgcbecldbaa
open Go.ChangeShapes Go.WideShapes Go.ChangeAt Go.RowKit Go.Deep

theorem bytes24 : Try.prog.bytesOf 24 = 24 := by kernel_rfl
theorem cells24 : Try.prog.cellsOf 24 = 1 := by kernel_rfl
theorem cells5 : Try.prog.cellsOf 5 = 1 := by kernel_rfl
theorem weights_mem_all {H : Type} {P : Program} {e : TypeId} : ∀ {ds : List (DataW H)} {i : Nat} {d : DataW H}, ds[i]? = some d → ∀ n ∈ d.weights P e, n ∈ DataW.weightsAll P e ds
  | d0 :: ds, 0, d, hd, n, hn => by
    simp only [List.getElem?_cons_zero, Option.some.injEq] at hd
    subst hd
    simp only [DataW.weightsAll, List.mem_append]
    exact Or.inl hn
  | d0 :: ds, i + 1, d, hd, n, hn => by
    simp only [List.getElem?_cons_succ] at hd
    simp only [DataW.weightsAll, List.mem_append]
    exact Or.inr (weights_mem_all hd n hn)
theorem rangeMap_getD {α : Type} (f : Nat → α) (d : α) (n i : Nat) (h : i < n) : ((List.range n).map f).getD i d = f i := by
  rw [List.getD_eq_getElem?_getD, List.getElem?_map, List.getElem?_range h]; rfl

theorem open22 {H : Type} {enc : TypeId × Value → H} {W : World} {ts : List TypeId} {ds : List (DataW H)} (hsz : (DataW.weightsEach Try.prog ts ds).all (· ≤ reachBytes) = true)
    {j : Nat} (ht : ts[j]? = some 22) {d : DataW H} (hd : ds[j]? = some d) {a : Option Addr} {n c : Nat} {p : List MemPlace} (h : DataW.Trod enc Try.prog W 0 (fun _ => true) true 22 (.slice a n c) d p) :
    ∃ (ss : List Sl) (ls : List (List Nat)), Rs W W.heap.size ⟨a, n, c⟩ ss ls ∧ ((∀ i, i < n → (ls.getD i []).length ≤ 140737488351232) ∧ n ≤ 140737488351232) ∧ (∀ i, i < n → (ss.getD i ⟨none, 0, 0⟩).a = none → (ss.getD i ⟨none, 0, 0⟩).c = 0) := by
  obtain ⟨fuel, hf⟩ := h
  rcases open_int_rows Try.underlying22 Try.underlying24 Try.underlying5 cells24 cells5 hf with ⟨hcs, _⟩ | ⟨x, l, cp, A, L, C, Z, hcs, _, hl, hm, hx, hrow⟩
  · simp [Value.cells] at hcs
    obtain ⟨rfl, rfl, rfl⟩ := hcs
    exact ⟨[], [], ⟨rfl, rfl, ⟨Nat.le_refl _, by simp only; omega, fun h => absurd h (by simp)⟩, fun i hi => absurd hi (by simp)⟩, ⟨fun i hi => absurd hi (by omega), by omega⟩, fun i hi => absurd hi (by omega)⟩
  · simp [Value.cells] at hcs
    obtain ⟨rfl, rfl, rfl⟩ := hcs
    simp only [Prod.mk.injEq] at hx
    have hd' := hd.trans (congrArg some hx.1)
    have hr := sized_slice hsz (j := j) (t := 22) (e := 24) ht hd' Try.underlying22
    rw [bytes24] at hr
    simp only [List.length_map, List.length_range, reachBytes] at hr
    have hC : ∀ r, r < n → C r ≤ 140737488351232 := fun r hr' => by
      obtain ⟨hc1, hL, hCm, hZ, hw, hnil, hA⟩ := hrow r (by omega)
      cases hAr : A r with
      | none => rw [hnil hAr]; omega
      | some a' =>
        have hmem : C r * Try.prog.bytesOf 5 ∈ DataW.weightsEach Try.prog ts ds := by
          refine DataW.weights_mem_each ht hd' _ ?_
          simp only [DataW.weights, Try.underlying22, List.mem_cons, List.mem_append]
          refine Or.inr (Or.inl (weights_mem_all (i := r) (d := intRow .u8 (A r) (L r) (Z r)) ?_ _ ?_))
          · rw [List.getElem?_map, List.getElem?_range hr']; rfl
          · rw [hAr]
            simp only [intRow, DataW.weights, Try.underlying24, List.mem_cons]
            refine Or.inl ?_
            simp only [lits, List.length_map, List.length_take, List.length_drop]
            congr 1
            omega
        have := List.all_eq_true.1 hsz _ hmem
        rw [bytes5] at this
        simp [reachBytes] at this
        omega
    refine ⟨(List.range n).map fun r => ⟨A r, L r, C r⟩, (List.range n).map fun r => ((Z r).take (L r)).map Int.toNat, ⟨by simp, by simp, ⟨hl, by unfold maxLen at hm; exact hm, fun h0 => ?_⟩, fun i hi => ?_⟩, ⟨fun i hi => ?_, by omega⟩, fun i hi => ?_⟩
    · simp only at h0
      have hx0 := (hrow 0 (by omega)).1
      rw [Addr.add, if_pos rfl] at hx0
      obtain ⟨e, hlt⟩ := plain_of_cell hx0
      refine ⟨x.block, x.off, by simp only; exact congrArg some e, hlt, fun i hi => ?_⟩
      simp only at hi
      have hxi := (hrow i (by omega)).1
      rw [e, Addr.add_lit] at hxi
      rw [hxi]
      show _ = some (Sl.v _)
      rw [rangeMap_getD _ _ _ _ hi]
      rfl
    · simp only at hi
      rw [rangeMap_getD _ _ _ _ hi, rangeMap_getD _ _ _ _ hi]
      obtain ⟨hc1, hL, hCm, hZ, hw, hnil, hA⟩ := hrow i (by omega)
      cases hAr : A i with
      | none =>
        have h1 := hnil hAr
        have h2 : L i = 0 := by omega
        rw [h1, h2]
        exact bs_nil W _
      | some a' => exact bs_of_ints hL hCm hZ (fun q hq => (hA a' hAr).2 q (by omega)) hw (Nat.le_refl _)
    · rw [rangeMap_getD _ _ _ _ hi, List.length_map, List.length_take]
      have := hC i hi
      obtain ⟨_, hL, _⟩ := hrow i (by omega)
      omega
    · rw [rangeMap_getD _ _ _ _ hi]
      exact (hrow i (by omega)).2.2.2.2.2.1
end Go.Proofs.Ytkdphgcbecldbaa
