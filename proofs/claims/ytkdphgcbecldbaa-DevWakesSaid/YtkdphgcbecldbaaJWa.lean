/- Texts of the proof, one behind the other: WkA, WkD, WkE, WkG. -/
import Derived.Test.YtkdphgcbecldbaaJr
/- The law's bytes (40). -/
namespace Go.Proofs.Ytkdphgcbecldbaa
open Go.RowKit
set_option maxRecDepth 100000 in
set_option maxHeartbeats 2000000 in
theorem bytes_any (m : Nat) (n : Int) (w : World) (h1 : 1 ≤ m) (h2 : m ≤ 1000) (hn : 0 ≤ n ∧ n ≤ 1000) :
    Calls Try.prog 40 #[.int .i64 m, .int .i64 n] w fun r w' => ∃ g l, r = .returned (.slice (some ⟨g, 0, none⟩) m m) ∧ w.heap.size ≤ g ∧ w'.heap[g]? = some (.cells (bvs l).toArray 5 (0, 0)) ∧ l.length = m ∧ Small l ∧ Gr w w' := by
  have hmk := make24 m (by omega)
  have HZ := Lib.hid (heap_alloc_new w (.cells (bvs (Z m)).toArray 5))
  go_enter Try.func40, Try.ntmps40
  go_wp2_with fail
  go_loopw [6] (fun i wr => ∃ (k : Nat) (l : List Nat), k ≤ m ∧ i = .int .i64 k ∧ Hid (wr.heap[w.heap.size]? = some (.cells (bvs l).toArray 5 (0, 0))) ∧ Hid (l.length = m) ∧ Hid (Small l) ∧ Hid (Gr w wr)) (fun i _ => m - (intOf i).toNat)
  case atStart => exact ⟨0, Z m, by omega, rfl, HZ.out, Z_len m, small_zero m, Gr.at_alloc w _⟩
  case round =>
    obtain ⟨k, l, hk, rfl, HB, HL, HS, HG⟩ := hrel
    by_cases hlt : k < m
    · have hc : wr.cell? ⟨w.heap.size, k, none⟩ = some (.int .u8 ((l.getD k 0 : Nat) : Int)) := by
        rw [cell_of_row _ _ _ _ _ _ HB.out, List.getElem?_toArray]
        have hl : k < (bvs l).length := by rw [bvs_len, HL.out]; exact hlt
        rw [List.getElem?_eq_getElem hl]
        exact congrArg some (bvs_at (List.getElem?_eq_getElem hl)).2
      have hf : wr.frozen? ⟨w.heap.size, k, none⟩ = false := by simp [World.frozen?, HB.out]
      have b1 : (0 : Int) ≤ (k : Int) := by omega
      have b2 : (k : Int) < (m : Int) := by omega
      obtain ⟨t, ht, ht2⟩ : ∃ t : Nat, (n + (k : Int)) % 256 = (t : Int) ∧ t < 256 := ⟨((n + (k : Int)) % 256).toNat, by omega, by omega⟩
      have HT := Lib.hid ht
      clear ht
      go_wp2_with fail
      rw [HT.out]
      go_roundw
      case rel =>
        refine ⟨k + 1, l.set k t, by omega, by go_num, ?_, by show _ = _; rw [List.length_set]; exact HL.out, small_set HS.out k ht2, Below.setCell HG.out (Nat.le_refl _) _⟩
        refine (setCell_at HB.out _).trans ?_
        rw [List.setIfInBounds_toArray]
        unfold bvs
        rw [List.map_set]
      case measure => simp [intOf]; omega
    · have hkm : k = m := by omega
      go_wp2_with fail
      go_ret
      exact ⟨_, l, rfl, Nat.le_refl _, HB.out, HL.out, HS.out, HG.out⟩
end Go.Proofs.Ytkdphgcbecldbaa
/- Deeds that are made: they read as such. -/
namespace Go.Proofs.Ytkdphgcbecldbaa
open Go.RowKit
def drows (xs : List Deed) : List Value := (xs.map Deed.cs).flatten
theorem drows_snoc (xs : List Deed) (x : Deed) : drows (xs ++ [x]) = drows xs ++ x.cs := by
  unfold drows
  rw [List.map_append, List.flatten_append]
  simp
theorem drows_at : ∀ (xs : List Deed) (i j : Nat) (hi : i < xs.length), j < 6 → (drows xs)[i * 6 + j]? = (xs[i]'hi).cs[j]?
  | [], i, j, hi, _ => by cases hi
  | x :: r, i, j, hi, hj => by
    have e1 : drows (x :: r) = x.cs ++ drows r := by unfold drows; rw [List.map_cons, List.flatten_cons]
    have hl : x.cs.length = 6 := rfl
    rw [e1]
    cases i with
    | zero =>
      rw [Nat.zero_mul, Nat.zero_add, List.getElem?_append_left (by omega)]
      rfl
    | succ i =>
      rw [show (i + 1) * 6 + j = 6 + (i * 6 + j) by omega, List.getElem?_append_right (by omega), hl, show 6 + (i * 6 + j) - 6 = i * 6 + j by omega]
      exact drows_at r i j (by simpa using hi) hj
theorem ds_made {w : World} {g : Nat} {cur : Array Value} (xs : List Deed) (h : w.heap[g]? = some (.cells cur 47 (0, 0))) (hc : cur.toList.take (xs.length * 6) = drows xs) (hok : ∀ x, x ∈ xs → DeedOk w w.heap.size x) (hn : xs.length ≤ 1000) : Ds w w.heap.size (some ⟨g, 0, none⟩) xs.length xs := by
  refine ⟨rfl, by omega, fun _ => ⟨g, 0, rfl, lt_of_heap h, fun i hi j v hv => ?_⟩, hok⟩
  have hj : j < 6 := by
    have : (xs[i]'hi).cs.length = 6 := rfl
    rcases Nat.lt_or_ge j 6 with h | h
    · exact h
    · rw [List.getElem?_eq_none (by omega)] at hv; cases hv
  have hx := drows_at xs i j hi hj
  rw [hv, ← hc, List.getElem?_take, if_pos (by omega), Array.getElem?_toList] at hx
  rw [Nat.zero_add, cell_of_row _ _ _ _ _ _ h]
  exact hx
/-- bytes that were made -/
def Mb (w : World) (g m : Nat) (l : List Nat) : Prop := w.heap[g]? = some (.cells (bvs l).toArray 5 (0, 0)) ∧ l.length = m ∧ Small l
theorem Mb.gr {w w' : World} {g m : Nat} {l : List Nat} (h : Mb w g m l) (hg : Gr w w') : Mb w' g m l := ⟨gr_cells h.1 hg, h.2⟩
def mdeed (what n : Int) (g m : Nat) (l : List Nat) : Deed := ⟨what, n, ⟨some ⟨g, 0, none⟩, m, m⟩, l, 0, 0, 0⟩
def ndeed (what n torn part : Int) (mask : Nat) : Deed := ⟨what, n, ⟨none, 0, 0⟩, [], torn, part, mask⟩
theorem mdeed_ok {w : World} {g m : Nat} {l : List Nat} (h : Mb w g m l) (hm : m ≤ 1000) {what n : Int} (h1 : i64 what) (h2 : i64 n) : DeedOk w w.heap.size (mdeed what n g m l) := by
  have hb := bs_cellsT h.1 h.2.2 (by rw [h.2.1]; omega)
  rw [h.2.1] at hb
  exact ⟨hb, by show l.length ≤ _; rw [h.2.1]; omega, h1, h2, by unfold mdeed i64; simp, by unfold mdeed i64; simp, by unfold mdeed; simp⟩
theorem ndeed_ok (w : World) {what n torn part : Int} {mask : Nat} (h1 : i64 what) (h2 : i64 n) (h3 : i64 torn) (h4 : i64 part) (h5 : mask < 4294967296) : DeedOk w w.heap.size (ndeed what n torn part mask) :=
  ⟨bs_nil w _, by unfold ndeed; simp, h1, h2, h3, h4, h5⟩
theorem mdeed_nn (what n : Int) (g m : Nat) (l : List Nat) : (mdeed what n g m l).s.a = none → (mdeed what n g m l).s.c = 0 := fun h => by cases h
theorem ndeed_nn (what n torn part : Int) (mask : Nat) : (ndeed what n torn part mask).s.a = none → (ndeed what n torn part mask).s.c = 0 := fun _ => rfl
theorem bytes_mb (m : Nat) (n : Int) (w : World) (h1 : 1 ≤ m) (h2 : m ≤ 1000) (hn : 0 ≤ n ∧ n ≤ 1000) :
    Calls Try.prog 40 #[.int .i64 m, .int .i64 n] w fun r w' => ∃ g l, r = .returned (.slice (some ⟨g, 0, none⟩) m m) ∧ Mb w' g m l ∧ Gr w w' := by
  refine (bytes_any m n w h1 h2 hn).mono ?_
  rintro r w' ⟨g, l, rfl, _, hc, hl, hs, hg⟩
  exact ⟨g, l, rfl, ⟨hc, hl, hs⟩, hg⟩
end Go.Proofs.Ytkdphgcbecldbaa
/- The deeds of DevWakes and of its ends. -/
namespace Go.Proofs.Ytkdphgcbecldbaa
open Go.RowKit
theorem made_calls (k : Int) (hk : i64 k) (xs : List Deed) (m : Nat) (hm : xs.length = m) (w : World) (hn : m ≤ 1000) (hok : ∀ x, x ∈ xs → DeedOk (w.alloc (.cells (drows xs).toArray 47)) (w.alloc (.cells (drows xs).toArray 47)).heap.size x) (h0 : ∀ x, x ∈ xs → x.s.a = none → x.s.c = 0) :
    Calls Try.prog 9 #[.int .i64 k, .slice (some ⟨w.heap.size, 0, none⟩) m m] (w.alloc (.cells (drows xs).toArray 47)) fun r w' => r = .returned (.bool true) ∧ Gr w w' := by
  subst hm
  have hds := ds_made xs (heap_alloc_new w (.cells (drows xs).toArray 47)) (by
    rw [List.toList_toArray, List.take_of_length_le]
    unfold drows
    clear hok h0 hn
    induction xs with
    | nil => simp
    | cons x r ih =>
      have hl : x.cs.length = 6 := rfl
      rw [List.map_cons, List.flatten_cons, List.length_append, List.length_cons, hl]
      omega) hok hn
  refine (devdoes_any k _ xs.length xs.length xs _ hds hk h0).mono ?_
  rintro r w' ⟨rfl, hg⟩
  exact ⟨rfl, Gr.step hg (Gr.at_alloc w _)⟩
def wdeeds (a t p q2 a2 : Int) (g1 g2 g3 g4 g5 : Nat) (l1 l2 l3 l4 l5 : List Nat) : List Deed :=
  [mdeed 1 0 g1 256 l1, mdeed 1 1 g2 256 l2, ndeed 3 0 0 0 0, ndeed 7 q2 (40 * p) 0 5, mdeed 1 a2 g3 256 l3, mdeed 1 1 g4 200 l4, mdeed 1 0 g5 256 l5, ndeed 5 0 0 0 0, ndeed 8 t 0 0 0, ndeed 6 a t p 0, ndeed 7 0 2047 0 1, ndeed 8 1 0 0 0]
theorem wakes_calls {w : World} {a t p q2 a2 : Int} {g1 g2 g3 g4 g5 : Nat} {l1 l2 l3 l4 l5 : List Nat} (h : Mb w g1 256 l1 ∧ Mb w g2 256 l2 ∧ Mb w g3 256 l3 ∧ Mb w g4 200 l4 ∧ Mb w g5 256 l5) (ha : -100 ≤ a ∧ a ≤ 100) (ht : -100 ≤ t ∧ t ≤ 100) (hp : -100 ≤ p ∧ p ≤ 100) (hq : -100 ≤ q2 ∧ q2 ≤ 100) (ha2 : -100 ≤ a2 ∧ a2 ≤ 100) :
    Calls Try.prog 9 #[.int .i64 3, .slice (some ⟨w.heap.size, 0, none⟩) 12 12] (w.alloc (.cells (drows (wdeeds a t p q2 a2 g1 g2 g3 g4 g5 l1 l2 l3 l4 l5)).toArray 47)) fun r w' => r = .returned (.bool true) ∧ Gr w w' := by
  obtain ⟨h1, h2, h3, h4, h5⟩ := h
  refine made_calls 3 (by unfold i64; omega) (wdeeds a t p q2 a2 g1 g2 g3 g4 g5 l1 l2 l3 l4 l5) 12 rfl w (by omega) ?_ ?_
  · generalize hW : w.alloc (.cells (drows (wdeeds a t p q2 a2 g1 g2 g3 g4 g5 l1 l2 l3 l4 l5)).toArray 47) = W
    have hg : Gr w W := by rw [← hW]; exact Gr.at_alloc w _
    clear hW
    have n0 : i64 0 := by unfold i64; omega
    refine List.forall_mem_cons.2 ⟨mdeed_ok (h1.gr hg) (by omega) (by unfold i64; omega) n0, ?_⟩
    refine List.forall_mem_cons.2 ⟨mdeed_ok (h2.gr hg) (by omega) (by unfold i64; omega) (by unfold i64; omega), ?_⟩
    refine List.forall_mem_cons.2 ⟨ndeed_ok W (by unfold i64; omega) n0 n0 n0 (by omega), ?_⟩
    refine List.forall_mem_cons.2 ⟨ndeed_ok W (by unfold i64; omega) (by unfold i64; omega) (by unfold i64; omega) n0 (by omega), ?_⟩
    refine List.forall_mem_cons.2 ⟨mdeed_ok (h3.gr hg) (by omega) (by unfold i64; omega) (by unfold i64; omega), ?_⟩
    refine List.forall_mem_cons.2 ⟨mdeed_ok (h4.gr hg) (by omega) (by unfold i64; omega) (by unfold i64; omega), ?_⟩
    refine List.forall_mem_cons.2 ⟨mdeed_ok (h5.gr hg) (by omega) (by unfold i64; omega) n0, ?_⟩
    refine List.forall_mem_cons.2 ⟨ndeed_ok W (by unfold i64; omega) n0 n0 n0 (by omega), ?_⟩
    refine List.forall_mem_cons.2 ⟨ndeed_ok W (by unfold i64; omega) (by unfold i64; omega) n0 n0 (by omega), ?_⟩
    refine List.forall_mem_cons.2 ⟨ndeed_ok W (by unfold i64; omega) (by unfold i64; omega) (by unfold i64; omega) (by unfold i64; omega) (by omega), ?_⟩
    refine List.forall_mem_cons.2 ⟨ndeed_ok W (by unfold i64; omega) n0 (by unfold i64; omega) n0 (by omega), ?_⟩
    refine List.forall_mem_cons.2 ⟨ndeed_ok W (by unfold i64; omega) (by unfold i64; omega) n0 n0 (by omega), ?_⟩
    exact fun x hx => by cases hx
  · refine List.forall_mem_cons.2 ⟨mdeed_nn _ _ _ _ _, List.forall_mem_cons.2 ⟨mdeed_nn _ _ _ _ _, List.forall_mem_cons.2 ⟨ndeed_nn _ _ _ _ _, List.forall_mem_cons.2 ⟨ndeed_nn _ _ _ _ _, List.forall_mem_cons.2 ⟨mdeed_nn _ _ _ _ _, List.forall_mem_cons.2 ⟨mdeed_nn _ _ _ _ _, List.forall_mem_cons.2 ⟨mdeed_nn _ _ _ _ _, List.forall_mem_cons.2 ⟨ndeed_nn _ _ _ _ _, List.forall_mem_cons.2 ⟨ndeed_nn _ _ _ _ _, List.forall_mem_cons.2 ⟨ndeed_nn _ _ _ _ _, List.forall_mem_cons.2 ⟨ndeed_nn _ _ _ _ _, List.forall_mem_cons.2 ⟨ndeed_nn _ _ _ _ _, fun x hx => by cases hx⟩⟩⟩⟩⟩⟩⟩⟩⟩⟩⟩⟩
def adeeds (n : Int) (g1 g2 g3 : Nat) : List Deed :=
  [ndeed 4 n 0 0 0, mdeed 1 0 g1 1 [1], ndeed 1 5 0 0 0, ndeed 3 0 0 0 0, ndeed 0 0 0 0 0, mdeed 1 1 g2 1 [2], ndeed 3 0 0 0 0, mdeed 1 0 g3 1 [3], ndeed 6 (-1) 0 0 0, ndeed 5 0 0 0 0, ndeed 6 576460752303423488 0 0 0]
theorem arms_calls {w : World} {n : Int} {g1 g2 g3 : Nat} (h : Mb w g1 1 [1] ∧ Mb w g2 1 [2] ∧ Mb w g3 1 [3]) (hn : -100 ≤ n ∧ n ≤ 100) :
    Calls Try.prog 9 #[.int .i64 2, .slice (some ⟨w.heap.size, 0, none⟩) 11 11] (w.alloc (.cells (drows (adeeds n g1 g2 g3)).toArray 47)) fun r w' => r = .returned (.bool true) ∧ Gr w w' := by
  obtain ⟨h1, h2, h3⟩ := h
  refine made_calls 2 (by unfold i64; omega) (adeeds n g1 g2 g3) 11 rfl w (by omega) ?_ ?_
  · generalize hW : w.alloc (.cells (drows (adeeds n g1 g2 g3)).toArray 47) = W
    have hg : Gr w W := by rw [← hW]; exact Gr.at_alloc w _
    clear hW
    have n0 : i64 0 := by unfold i64; omega
    refine List.forall_mem_cons.2 ⟨ndeed_ok W (by unfold i64; omega) (by unfold i64; omega) n0 n0 (by omega), ?_⟩
    refine List.forall_mem_cons.2 ⟨mdeed_ok (h1.gr hg) (by omega) (by unfold i64; omega) n0, ?_⟩
    refine List.forall_mem_cons.2 ⟨ndeed_ok W (by unfold i64; omega) (by unfold i64; omega) n0 n0 (by omega), ?_⟩
    refine List.forall_mem_cons.2 ⟨ndeed_ok W (by unfold i64; omega) n0 n0 n0 (by omega), ?_⟩
    refine List.forall_mem_cons.2 ⟨ndeed_ok W n0 n0 n0 n0 (by omega), ?_⟩
    refine List.forall_mem_cons.2 ⟨mdeed_ok (h2.gr hg) (by omega) (by unfold i64; omega) (by unfold i64; omega), ?_⟩
    refine List.forall_mem_cons.2 ⟨ndeed_ok W (by unfold i64; omega) n0 n0 n0 (by omega), ?_⟩
    refine List.forall_mem_cons.2 ⟨mdeed_ok (h3.gr hg) (by omega) (by unfold i64; omega) n0, ?_⟩
    refine List.forall_mem_cons.2 ⟨ndeed_ok W (by unfold i64; omega) (by unfold i64; omega) n0 n0 (by omega), ?_⟩
    refine List.forall_mem_cons.2 ⟨ndeed_ok W (by unfold i64; omega) n0 n0 n0 (by omega), ?_⟩
    refine List.forall_mem_cons.2 ⟨ndeed_ok W (by unfold i64; omega) (by unfold i64; omega) n0 n0 (by omega), ?_⟩
    exact fun x hx => by cases hx
  · refine List.forall_mem_cons.2 ⟨ndeed_nn _ _ _ _ _, List.forall_mem_cons.2 ⟨mdeed_nn _ _ _ _ _, List.forall_mem_cons.2 ⟨ndeed_nn _ _ _ _ _, List.forall_mem_cons.2 ⟨ndeed_nn _ _ _ _ _, List.forall_mem_cons.2 ⟨ndeed_nn _ _ _ _ _, List.forall_mem_cons.2 ⟨mdeed_nn _ _ _ _ _, List.forall_mem_cons.2 ⟨ndeed_nn _ _ _ _ _, List.forall_mem_cons.2 ⟨mdeed_nn _ _ _ _ _, List.forall_mem_cons.2 ⟨ndeed_nn _ _ _ _ _, List.forall_mem_cons.2 ⟨ndeed_nn _ _ _ _ _, List.forall_mem_cons.2 ⟨ndeed_nn _ _ _ _ _, fun x hx => by cases hx⟩⟩⟩⟩⟩⟩⟩⟩⟩⟩⟩
def edeeds (n : Int) (g m : Nat) (l : List Nat) : List Deed := [mdeed 1 n g m l, ndeed 7 n (2046 + n) 0 4294967295, ndeed 7 n (-1) 0 1, ndeed 7 n 0 0 0, ndeed 8 n 0 0 0]
theorem ends_calls {w : World} {n : Int} {g m : Nat} {l : List Nat} (h : Mb w g m l) (hm : m ≤ 1000) (hn : -100 ≤ n ∧ n ≤ 100) :
    Calls Try.prog 9 #[.int .i64 n, .slice (some ⟨w.heap.size, 0, none⟩) 5 5] (w.alloc (.cells (drows (edeeds n g m l)).toArray 47)) fun r w' => r = .returned (.bool true) ∧ Gr w w' := by
  refine made_calls n (by unfold i64; omega) (edeeds n g m l) 5 rfl w (by omega) ?_ ?_
  · generalize hW : w.alloc (.cells (drows (edeeds n g m l)).toArray 47) = W
    have hg : Gr w W := by rw [← hW]; exact Gr.at_alloc w _
    clear hW
    have n0 : i64 0 := by unfold i64; omega
    refine List.forall_mem_cons.2 ⟨mdeed_ok (h.gr hg) hm (by unfold i64; omega) (by unfold i64; omega), ?_⟩
    refine List.forall_mem_cons.2 ⟨ndeed_ok W (by unfold i64; omega) (by unfold i64; omega) (by unfold i64; omega) n0 (by omega), ?_⟩
    refine List.forall_mem_cons.2 ⟨ndeed_ok W (by unfold i64; omega) (by unfold i64; omega) (by unfold i64; omega) n0 (by omega), ?_⟩
    refine List.forall_mem_cons.2 ⟨ndeed_ok W (by unfold i64; omega) (by unfold i64; omega) n0 n0 (by omega), ?_⟩
    refine List.forall_mem_cons.2 ⟨ndeed_ok W (by unfold i64; omega) (by unfold i64; omega) n0 n0 (by omega), ?_⟩
    exact fun x hx => by cases hx
  · refine List.forall_mem_cons.2 ⟨mdeed_nn _ _ _ _ _, List.forall_mem_cons.2 ⟨ndeed_nn _ _ _ _ _, List.forall_mem_cons.2 ⟨ndeed_nn _ _ _ _ _, List.forall_mem_cons.2 ⟨ndeed_nn _ _ _ _ _, List.forall_mem_cons.2 ⟨ndeed_nn _ _ _ _ _, fun x hx => by cases hx⟩⟩⟩⟩⟩
end Go.Proofs.Ytkdphgcbecldbaa
/- The law's ends (41). -/
namespace Go.Proofs.Ytkdphgcbecldbaa
open Go.RowKit
theorem info47 : (Try.prog.info? 47).map (fun i => (i.zero, i.size, i.bytes)) = some (some (.agg #[.int .i64 0, .int .i64 0, .slice none 0 0, .int .i64 0, .int .i64 0, .int .u32 0]), 6, 64) := by kernel_rfl
/-- deeds, one behind the other -/
structure El (w : World) (base q : Nat) (sv : Value) (xs : List Deed) : Prop where
  own : w.ownsRow base 47 6 sv q (drows xs)
  len : xs.length = q
  each : ∀ x, x ∈ xs → ∃ n g l, x = mdeed 1 n g 1 l ∧ Mb w g 1 l ∧ i64 n
  le : base ≤ w.heap.size
theorem El.ne {w : World} {base q : Nat} {sv : Value} {xs : List Deed} (h : El w base q sv xs) {b : Nat} {cs : Array Value} {t : TypeId} (hb : w.heap[b]? = some (.cells cs t (0, 0))) (ht : t ≠ 47) : some b ≠ sv.ownBlock := fun e => by
  rcases h.own.2 with ⟨hv, _⟩ | ⟨g, cap, cur, hv, _, hh, _⟩
  · rw [hv] at e; simp [Value.ownBlock] at e
  · rw [hv] at e
    have e' : b = g := by simpa [Value.ownBlock] using e
    subst e'
    exact ne_of_type hb hh ht rfl
theorem El.step {w w1 w2 : World} {base q g : Nat} {sv v' : Value} {xs : List Deed} {n : Int} {l : List Nat} (h : El w base q sv xs) (hg : Gr w w1) (hm : Mb w1 g 1 l) (hn : i64 n)
    (own : w2.ownsRow base 47 6 v' (q + 1) (drows xs ++ (mdeed 1 n g 1 l).cs)) (hgr : w1.grownBy w2 sv.ownBlock) (hsz : w1.heap.size ≤ w2.heap.size) : El w2 base (q + 1) v' (xs ++ [mdeed 1 n g 1 l]) := by
  have hown : ∀ b, sv.ownBlock = some b → ∃ cur, w1.heap[b]? = some (.cells cur 47 (0, 0)) := fun b hb => by
    rcases h.own.2 with ⟨hv, _⟩ | ⟨g', cap, cur, hv, _, hh, _⟩
    · rw [hv] at hb; simp [Value.ownBlock] at hb
    · rw [hv] at hb
      have e' : g' = b := by simpa [Value.ownBlock] using hb
      subst e'
      exact ⟨cur, gr_cells hh hg⟩
  have keep : ∀ (b : Nat) (cs : Array Value), w1.heap[b]? = some (.cells cs 5 (0, 0)) → w2.heap[b]? = some (.cells cs 5 (0, 0)) := fun b cs hb => by
    refine (hgr.block b (lt_of_heap hb) (fun e => ?_)).trans hb
    obtain ⟨cur, hc⟩ := hown b e.symm
    exact ne_of_type hb hc (by decide) rfl
  refine ⟨by rw [drows_snoc]; exact own, by rw [List.length_append, h.len]; rfl, fun x hx => ?_, Nat.le_trans h.le (Nat.le_trans hg.size hsz)⟩
  rcases List.mem_append.1 hx with hx | hx
  · obtain ⟨n', g', l', e, hm', hn'⟩ := h.each x hx
    exact ⟨n', g', l', e, ⟨keep _ _ (hm'.gr hg).1, hm'.2⟩, hn'⟩
  · rw [List.mem_singleton.1 hx]
    exact ⟨n, g, l, rfl, ⟨keep _ _ hm.1, hm.2⟩, hn⟩
theorem El.gr {w w' : World} {base q : Nat} {sv : Value} {xs : List Deed} (h : El w base q sv xs) (hg : Gr w w') : El w' base q sv xs := by
  refine ⟨?_, h.len, fun x hx => ?_, Nat.le_trans h.le hg.size⟩
  · obtain ⟨hl, h1 | ⟨g, cap, cur, hv, hb, hh, hr⟩⟩ := h.own
    · exact ⟨hl, .inl h1⟩
    · exact ⟨hl, .inr ⟨g, cap, cur, hv, hb, gr_cells hh hg, hr⟩⟩
  · obtain ⟨n, g, l, e, hm, hn⟩ := h.each x hx
    exact ⟨n, g, l, e, hm.gr hg, hn⟩
theorem El.lt {w : World} {base q : Nat} {sv : Value} {xs : List Deed} (h : El w base q sv xs) {b : Nat} (hb : sv.ownBlock = some b) : base ≤ b ∧ b < w.heap.size := by
  rcases h.own.2 with ⟨hv, _⟩ | ⟨g', cap, cur, hv, hgb, hh, _⟩
  · rw [hv] at hb; simp [Value.ownBlock] at hb
  · rw [hv] at hb
    have e' : g' = b := by simpa [Value.ownBlock] using hb
    subst e'
    exact ⟨hgb, lt_of_heap hh⟩
def last2 : List Deed := [ndeed 5 0 0 0 0, ndeed 6 576460752303423493 63 3 0]
/-- the deeds, and two more: they read as such -/
theorem El.ds {w w1 w2 : World} {base : Nat} {sv v' : Value} {xs : List Deed} (h : El w base 70 sv xs) (hg : Gr w w1) (own : w2.ownsRow base 47 6 v' (70 + 2) (drows xs ++ drows last2)) (hgr : w1.grownBy w2 sv.ownBlock) :
    ∃ g cap, v' = .slice (some ⟨g, 0, none⟩) 72 cap ∧ Ds w2 w2.heap.size (some ⟨g, 0, none⟩) 72 (xs ++ last2) := by
  have hown : ∀ b, sv.ownBlock = some b → ∃ cur, w1.heap[b]? = some (.cells cur 47 (0, 0)) := fun b hb => by
    rcases h.own.2 with ⟨hv, _⟩ | ⟨g', cap, cur, hv, _, hh, _⟩
    · rw [hv] at hb; simp [Value.ownBlock] at hb
    · rw [hv] at hb
      have e' : g' = b := by simpa [Value.ownBlock] using hb
      subst e'
      exact ⟨cur, gr_cells hh hg⟩
  have keep : ∀ (b : Nat) (cs : Array Value), w1.heap[b]? = some (.cells cs 5 (0, 0)) → w2.heap[b]? = some (.cells cs 5 (0, 0)) := fun b cs hb => by
    refine (hgr.block b (lt_of_heap hb) (fun e => ?_)).trans hb
    obtain ⟨cur, hc⟩ := hown b e.symm
    exact ne_of_type hb hc (by decide) rfl
  obtain ⟨hl, ⟨_, h0⟩ | ⟨g, cap, cur, hv, hb, hh, hle, hc1, hc2, hr⟩⟩ := own
  · omega
  have hd : drows (xs ++ last2) = drows xs ++ drows last2 := by unfold drows; rw [List.map_append, List.flatten_append]
  have hlen : (xs ++ last2).length = 72 := by rw [List.length_append, h.len]; rfl
  have n0 : i64 0 := by unfold i64; omega
  refine ⟨g, cap, hv, ?_⟩
  rw [← hlen]
  refine ds_made _ hh (by rw [hlen, hd]; exact hr) (fun x hx => ?_) (by rw [hlen]; omega)
  rcases List.mem_append.1 hx with hx | hx
  · obtain ⟨n, g', l, e, hm, hn⟩ := h.each x hx
    rw [e]
    exact mdeed_ok ⟨keep _ _ (hm.gr hg).1, hm.2⟩ (by omega) (by unfold i64; omega) hn
  · rcases List.mem_cons.1 hx with rfl | hx
    · exact ndeed_ok w2 (by unfold i64; omega) n0 n0 n0 (by omega)
    · rw [List.mem_singleton.1 hx]
      exact ndeed_ok w2 (by unfold i64; omega) (by unfold i64; omega) (by unfold i64; omega) (by unfold i64; omega) (by omega)
theorem El.nn {w : World} {base q : Nat} {sv : Value} {xs : List Deed} (h : El w base q sv xs) : ∀ x, x ∈ xs ++ last2 → x.s.a = none → x.s.c = 0 := fun x hx => by
  rcases List.mem_append.1 hx with hx | hx
  · obtain ⟨n, g', l, e, _, _⟩ := h.each x hx
    rw [e]
    exact mdeed_nn _ _ _ _ _
  · rcases List.mem_cons.1 hx with rfl | hx
    · exact ndeed_nn _ _ _ _ _
    · rw [List.mem_singleton.1 hx]
      exact ndeed_nn _ _ _ _ _
theorem field50z (a b c d e : Int) (g : Bool) (w : World) : (Instr.field 50 (.agg #[.int .i64 a, .int .i64 b, .int .i64 c, .int .i64 d, .int .i64 e, .bool g]) 0).run Try.prog w = .ok (.int .i64 a) w := by
  unfold Instr.field
  simp [Sem.run_bind, go_sem, asAgg]
theorem fresh_stat (d bb hb : Nat) : ∃ c : Int, (Dk.fresh d bb hb 4096).stat = .agg #[.int .i64 4096, .int .i64 0, .int .i64 c, .int .i64 0, .int .i64 0, .bool false] := ⟨_, rfl⟩
set_option maxRecDepth 100000 in
set_option maxHeartbeats 8000000 in
theorem ends_ok (w : World) : Calls Try.prog 41 #[] w fun r w' => r = .returned (.bool true) ∧ Gr w w' := by
  obtain ⟨i1, hi1, hz1, hs1, hy1⟩ := info_parts info47
  have I1 := Lib.hid (And.intro hi1 (And.intro hz1 (And.intro hs1 hy1)))
  clear hi1 hz1 hs1 hy1
  go_enter Try.func41, Try.ntmps41
  go_wp2_with fail
  go_loopw [1] (fun i wr => ∃ n : Int, -1 ≤ n ∧ n ≤ 3 ∧ i = .int .i64 n ∧ Hid (Gr w wr)) (fun i _ => (3 - intOf i).toNat)
  case atStart => exact ⟨-1, by omega, by omega, rfl, Below.refl _ _⟩
  case round =>
    obtain ⟨n, hn1, hn2, rfl, HG⟩ := hrel
    by_cases hlt : n < 3
    · obtain ⟨m, hm⟩ : ∃ m : Nat, 255 + n = (m : Int) := ⟨(255 + n).toNat, by omega⟩
      have hmm : m ≤ 1000 ∧ 1 ≤ m := by omega
      go_wp2_with fail
      refine (bytes_mb m 1 _ hmm.2 hmm.1 (by omega)).mono ?_
      rintro e w1 ⟨g1, l1, rfl, hm1, hg1⟩
      have HM1 := Lib.hid hm1
      have HG1 := Lib.hid (Gr.step hg1 HG.out)
      clear hm1 hg1
      go_wp2_with fail
      refine (ends_calls (n := n) HM1.out hmm.1 (by omega)).mono ?_
      rintro e w2 ⟨rfl, hg2⟩
      have HG2 := Lib.hid (Gr.step hg2 HG1.out)
      clear hg2
      go_wp2_with fail
      go_roundw
      case rel => exact ⟨n + 1, by omega, by omega, by go_num, HG2.out⟩
      case measure => simp [intOf]; omega
    · go_wp2_with fail
      obtain ⟨base, hbase⟩ : ∃ base, base = wr.heap.size := ⟨_, rfl⟩
      have HBASE : Hid (w.heap.size ≤ base) := by rw [hbase]; exact HG.out.size
      have HEL0 : Hid (El wr base 0 (.slice none 0 0) []) := ⟨World.ownsRow_nil _ _ _ _, rfl, (fun x hx => by cases hx), Nat.le_of_eq hbase⟩
      clear hbase
      go_loopw [2, 3] (fun sv i w2 => ∃ (q : Nat) (xs : List Deed), q ≤ 70 ∧ i = .int .i64 q ∧ Hid (El w2 base q sv xs) ∧ Hid (Gr w w2)) (fun _ i _ => 70 - (intOf i).toNat)
      case atStart => exact ⟨0, [], by omega, rfl, HEL0.out, HG.out⟩
      case round =>
        clear HG
        obtain ⟨q, xs, hq, rfl, HE, HG⟩ := hrel
        by_cases hlt2 : q < 70
        · obtain ⟨r, hr, hr1, hr2⟩ : ∃ r : Int, (q : Int).tmod 35 = r ∧ -35 < r ∧ r < 35 := ⟨(q : Int).tmod 35, rfl, by
            have h2 := Int.tmod_lt_of_pos (-(q : Int)) (show (0 : Int) < 35 by omega)
            rw [Int.neg_tmod] at h2
            omega, Int.tmod_lt_of_pos (q : Int) (by omega)⟩
          have hb1 : (q : Int) % 256 = (q : Int) := by omega
          have HR : Hid (i64 r) := by unfold Hid i64; omega
          have HMB : Hid (Mb (wr.alloc (.cells #[.int .u8 q] 5)) wr.heap.size 1 [q]) := ⟨heap_alloc_new wr _, rfl, fun x hx => by rw [List.mem_singleton.1 hx]; omega⟩
          have HW2 : Hid (Gr wr ((wr.alloc (.cells #[.int .u8 q] 5)).alloc (.cells (mdeed 1 r wr.heap.size 1 [q]).cs.toArray 47))) := (Gr.at_alloc wr _).alloc _
          have HM2 : Hid (Mb ((wr.alloc (.cells #[.int .u8 q] 5)).alloc (.cells (mdeed 1 r wr.heap.size 1 [q]).cs.toArray 47)) wr.heap.size 1 [q]) := HMB.out.gr (Gr.at_alloc _ _)
          have HOWN : Hid (((wr.alloc (.cells #[.int .u8 q] 5)).alloc (.cells (mdeed 1 r wr.heap.size 1 [q]).cs.toArray 47)).ownsRow base 47 6 u2 q (drows xs)) := (HE.out.own.alloc _).alloc _
          have HNEWS : Hid (∀ j u, (mdeed 1 r wr.heap.size 1 [q]).cs[j]? = some u → ((wr.alloc (.cells #[.int .u8 q] 5)).alloc (.cells (mdeed 1 r wr.heap.size 1 [q]).cs.toArray 47)).cell? ((⟨wr.heap.size + 1, 0, none⟩ : Addr).add j) = some u) :=
            World.news_of_block (cs := (mdeed 1 r wr.heap.size 1 [q]).cs.toArray) (t := 47) (fr := (0, 0)) (heap_alloc_at (World.size_alloc _ _).symm)
          have HSZ : Hid (base ≤ ((wr.alloc (.cells #[.int .u8 q] 5)).alloc (.cells (mdeed 1 r wr.heap.size 1 [q]).cs.toArray 47)).heap.size) := Nat.le_trans HE.out.le HW2.out.size
          clear HMB
          go_wp2_with (at_builtin; refine wpList_append_own _ rfl (.tmp 35) (.tmp 42) 40 rfl base 47 i1 _ 6 64 Try.underlying40 I1.out.1 I1.out.2.1 I1.out.2.2.1 I1.out.2.2.2 rfl (by decide) u2 q _ rfl HOWN.out ⟨wr.heap.size + 1, 0, none⟩ 1 1 (mdeed 1 r wr.heap.size 1 [q]).cs rfl rfl ?d1 ?d2 ?d3 ?d4 ?d5 ?_)
          case d1 => exact HNEWS.out
          case d2 =>
            intro u hu
            rcases List.mem_cons.1 hu with rfl | hu
            · rfl
            rcases List.mem_cons.1 hu with rfl | hu
            · rfl
            rcases List.mem_cons.1 hu with rfl | hu
            · rfl
            rcases List.mem_cons.1 hu with rfl | hu
            · rfl
            rcases List.mem_cons.1 hu with rfl | hu
            · rfl
            rw [List.mem_singleton.1 hu]; rfl
          case d3 => unfold maxLen; omega
          case d4 => omega
          case d5 => exact HSZ.out
          intro v' w3 hown3 hg3 _
          have hel := HE.out.step HW2.out HM2.out HR.out hown3 hg3 hg3.size
          have HEL := Lib.hid hel
          have hgr := (HG.out.trans (HW2.out.mono HG.out.size)).grown hg3 (Nat.le_trans HG.out.size HW2.out.size) (fun b hb => by
            rcases HE.out.own.2 with ⟨hv, _⟩ | ⟨g', cap, cur, hv, hgb, _⟩
            · rw [hv] at hb; simp [Value.ownBlock] at hb
            · rw [hv] at hb
              have e' : g' = b := by simpa [Value.ownBlock] using hb
              have := HBASE.out
              omega)
          have HGR := Lib.hid hgr
          clear hown3 hg3 hel hgr HNEWS HOWN HM2 HW2 HSZ
          go_wp2_with fail
          go_roundw
          case rel => exact ⟨q + 1, _, by omega, by go_num, HEL.out, HGR.out⟩
          case measure => simp [intOf]; omega
        · obtain rfl : q = 70 := by omega
          go_wp2_with fail
          refine (new_yes 4096 _ (by omega) (by omega)).mono ?_
          rintro e w3 ⟨d, bb, hb, rfl, hg3, hd3, g1, g2, g3⟩
          have HEL := Lib.hid (HE.out.gr hg3)
          have HD3 := Lib.hid hd3
          have HG3 := Lib.hid (HG.out.trans (hg3.mono HG.out.size))
          have HFP : Hid (∀ b, (Dk.fresh d bb hb 4096).fp b → wr.heap.size ≤ b) := by
            rintro b (rfl | rfl | rfl | h)
            · exact g3
            · exact g1
            · exact g2
            · simp [Dk.fresh, Value.ownBlock] at h
          have HOB : Hid (∀ b, u2.ownBlock = some b → base ≤ b ∧ b < wr.heap.size) := fun b hb => HE.out.lt hb
          have HBLE := Lib.hid HE.out.le
          clear hg3 hd3 g1 g2 g3 HE HG HEL0
          go_wp2_with fail
          refine (new_no 4097 _ (by omega)).mono ?_
          rintro e w4 ⟨rfl, rfl⟩
          have HW2 : Hid (Gr w3 (w3.alloc (.cells (drows last2).toArray 47))) := Gr.at_alloc w3 _
          have HOWN : Hid ((w3.alloc (.cells (drows last2).toArray 47)).ownsRow base 47 6 u2 70 (drows xs)) := HEL.out.own.alloc _
          have HNEWS : Hid (∀ j u, (drows last2)[j]? = some u → (w3.alloc (.cells (drows last2).toArray 47)).cell? ((⟨w3.heap.size, 0, none⟩ : Addr).add j) = some u) :=
            World.news_of_block (cs := (drows last2).toArray) (t := 47) (fr := (0, 0)) (heap_alloc_new w3 _)
          have HSZ : Hid (base ≤ (w3.alloc (.cells (drows last2).toArray 47)).heap.size) := Nat.le_trans HEL.out.le HW2.out.size
          have HONE : Hid (∀ u ∈ drows last2, u.oneCell' = true) := by show ∀ u ∈ drows last2, u.oneCell' = true; exact List.all_eq_true.1 (by rfl)
          go_wp2_with (at_builtin; refine wpList_append_own _ rfl (.tmp 52) (.tmp 55) 40 rfl base 47 i1 _ 6 64 Try.underlying40 I1.out.1 I1.out.2.1 I1.out.2.2.1 I1.out.2.2.2 rfl (by decide) u2 70 _ rfl HOWN.out ⟨w3.heap.size, 0, none⟩ 2 2 (drows last2) rfl rfl ?d1 ?d2 ?d3 ?d4 ?d5 ?_)
          case d1 => exact HNEWS.out
          case d2 => exact HONE.out
          case d3 => unfold maxLen; omega
          case d4 => omega
          case d5 => exact HSZ.out
          intro v' w5 hown5 hg5 _
          obtain ⟨g, cap, rfl, hds⟩ := HEL.out.ds HW2.out hown5 hg5
          have hgr := (HG3.out.trans (HW2.out.mono HG3.out.size)).grown hg5 (Nat.le_trans HG3.out.size HW2.out.size) (fun b hb => Nat.le_trans HBASE.out (HOB.out b hb).1)
          have HG5 := Lib.hid hgr
          have HDS := Lib.hid hds
          have HD5 : Hid (Dsk w5 (Dk.fresh d bb hb 4096)) := by
            have h1 := HD3.out.gr HW2.out
            refine h1.keep (S := fun b => u2.ownBlock = some b) ⟨hg5.os, hg5.tape, hg5.output, hg5.size, fun b hb hn => hg5.block b hb (fun e => hn e.symm)⟩ (fun b hf hs => ?_)
            have := HFP.out b hf
            have := (HOB.out b hs).2
            omega
          clear hown5 hg5 hds hgr HNEWS HOWN HSZ HONE
          go_wp2_with fail
          refine (devdoes_any 35 _ 72 cap (xs ++ last2) w5 HDS.out (by unfold i64; omega) HEL.out.nn).mono ?_
          rintro e w6 ⟨rfl, hg6⟩
          have HD6 := Lib.hid (HD5.out.gr hg6)
          have HG6 := Lib.hid (Gr.step hg6 HG5.out)
          clear hg6
          go_wp2_with fail
          refine (stat_ok (Dk.fresh d bb hb 4096) _ HD6.out).mono ?_
          rintro e w7 ⟨rfl, hg7⟩
          have HD7 := Lib.hid (HD6.out.gr hg7)
          have HG7 := Lib.hid (Gr.step hg7 HG6.out)
          clear hg7
          obtain ⟨c, hc⟩ := fresh_stat d bb hb
          rw [hc]
          have hfl := fun W => field50z 4096 0 c 0 0 false W
          clear hc
          go_wp2_with fail
          refine (write_ok (Dk.fresh d bb hb 4096) 4095 none 0 0 [] w7.heap.size w7 HD7.out (bs_nil w7 _) (Nat.le_refl _) (fun h => absurd h (by omega)) rfl (by show 4095 < 4096; omega) (by omega) (by show ¬ (0 : Int) = 1; omega) (Nat.zero_le _)).mono ?_
          rintro e w8 ⟨rfl, v8, hm8⟩
          have HG8 := Lib.hid (hm8.kp (fun b hb => Nat.le_trans (Nat.le_trans HBASE.out HBLE.out) (HFP.out b hb)) HG7.out.size HG7.out).1
          clear hm8
          go_wp2_with fail
          go_ret
          exact ⟨rfl, HG8.out⟩
end Go.Proofs.Ytkdphgcbecldbaa
