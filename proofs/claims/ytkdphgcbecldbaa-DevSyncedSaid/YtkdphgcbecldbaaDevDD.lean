/- The disk: Rot and Wipe for a caller; hurts counted; blocks told. -/
import Derived.Test.YtkdphgcbecldbaaDevCC
namespace Go.Proofs.Ytkdphgcbecldbaa
open Go.RowKit
def rotV (l : List Nat) (bit : Int) (m : Nat) : List Nat := if 0 ≤ bit ∧ bit < 2048 then rotB l bit.toNat m else l
theorem rotV_len {l : List Nat} (hl : l.length = 256) (bit : Int) (m : Nat) : (rotV l bit m).length = 256 := by
  unfold rotV
  split
  · exact (rotF_len _ _ _ _).trans hl
  · exact hl
theorem rotV_small {l : List Nat} (hl : Small l) (bit : Int) (m : Nat) : Small (rotV l bit m) := by
  unfold rotV
  split
  · exact rotF_small _ _ _ _ hl
  · exact hl
theorem rotV_twice {l : List Nat} (hl : l.length = 256) (hs : Small l) (bit : Int) (m : Nat) : rotV (rotV l bit m) bit m = l := by
  unfold rotV
  split
  · exact rotB_twice hl hs _ _ (by omega)
  · rfl
theorem rotV_one {l : List Nat} (hl : l.length = 256) (bit : Int) (h0 : 0 ≤ bit) (h1 : bit < 2048) : rotV l bit 1 ≠ l := by
  unfold rotV
  rw [if_pos ⟨h0, h1⟩]
  exact rotB_one hl _ _ (by omega) rfl
variable {D : Dk} {k : Nat} {dn : Bool} {bl : Nat → List Nat} {hu : Nat → Bool} {ws : List (Nat × List Nat)}
theorem rot_is_same (hI : Is D k dn bl hu ws) (n : Nat) (bit : Int) (m : Nat) (w : World) (h : Dsk w D) (hn : n < k) (hm : m < 4294967296) (hr : rotV (bl n) bit m = bl n) :
    Calls Try.prog 35 #[.pointer (some ⟨D.d, 0, none⟩), .int .i64 n, .int .i64 bit, .int .u32 m] w fun r w' => r = .returned (.int .i64 2) ∧ ∃ D', Mv w D w' D' ∧ Is D' k dn bl hu ws := by
  unfold rotV at hr
  split at hr
  · have := rot_same D n bit.toNat m w h (by rw [hI.k]; exact hn) (by omega) hm (by rw [hI.bl]; exact hr)
    rw [Int.toNat_of_nonneg (by omega)] at this
    exact this.mono fun r w' ⟨h1, h2⟩ => ⟨h1, D, h2, hI⟩
  · exact (rot_far D n bit m w h (by omega) (by rw [hI.k]; omega) (by omega)).mono fun r w' ⟨h1, h2⟩ => ⟨h1, D, h2, hI⟩
theorem rot_is_hurt (hI : Is D k dn bl hu ws) (n : Nat) (bit : Int) (m : Nat) (w : World) (h : Dsk w D) (hn : n < k) (hm : m < 4294967296) (hr : rotV (bl n) bit m ≠ bl n) (hh : hu n = true) :
    Calls Try.prog 35 #[.pointer (some ⟨D.d, 0, none⟩), .int .i64 n, .int .i64 bit, .int .u32 m] w fun r w' => r = .returned (.int .i64 16) ∧ ∃ D', Mv w D w' D' ∧ Is D' k dn bl hu ws := by
  unfold rotV at hr
  split at hr
  · have := rot_hurt D n bit.toNat m w h (by rw [hI.k]; exact hn) (by omega) hm (by rw [hI.bl]; exact hr) (by rw [hI.hu]; exact hh)
    rw [Int.toNat_of_nonneg (by omega)] at this
    exact this.mono fun r w' ⟨h1, h2⟩ => ⟨h1, D, h2, hI⟩
  · exact absurd rfl hr
theorem rot_is_ok (hI : Is D k dn bl hu ws) (n : Nat) (bit : Int) (m : Nat) (w : World) (h : Dsk w D) (hn : n < k) (hm : m < 4294967296) (hr : rotV (bl n) bit m ≠ bl n) (hh : hu n = false) :
    Calls Try.prog 35 #[.pointer (some ⟨D.d, 0, none⟩), .int .i64 n, .int .i64 bit, .int .u32 m] w fun r w' => r = .returned (.int .i64 0) ∧ ∃ D', Mv w D w' D' ∧ Is D' k dn (upd bl n (rotV (bl n) bit m)) (upd hu n true) ws := by
  have hV : 0 ≤ bit ∧ bit < 2048 := by
    unfold rotV at hr
    split at hr
    · assumption
    · exact absurd rfl hr
  have e : rotV (bl n) bit m = rotB (bl n) bit.toNat m := by unfold rotV; rw [if_pos hV]
  rw [e] at hr ⊢
  have := rot_ok D n bit.toNat m w h (by rw [hI.k]; exact hn) (by omega) hm (by rw [hI.bl]; exact hr) (by rw [hI.hu]; exact hh)
  rw [Int.toNat_of_nonneg (by omega)] at this
  refine this.mono fun r w' ⟨h1, h2⟩ => ⟨h1, _, h2, ⟨hI.k, hI.dn, hI.ar, ?_, ?_, hI.ws⟩⟩
  · show upd D.bl n (rotB (D.bl n) _ _) = _
    rw [hI.bl]
  · show upd D.hu n true = _
    rw [hI.hu]
theorem wipe_is_same (hI : Is D k dn bl hu ws) (n : Nat) (w : World) (h : Dsk w D) (hn : n < k) (hr : Z 256 = bl n) :
    Calls Try.prog 36 #[.pointer (some ⟨D.d, 0, none⟩), .int .i64 n] w fun r w' => r = .returned (.int .i64 2) ∧ ∃ D', Mv w D w' D' ∧ Is D' k dn bl hu ws :=
  (wipe_same D n w h (by rw [hI.k]; exact hn) (by rw [hI.bl]; exact hr)).mono fun r w' ⟨h1, h2⟩ => ⟨h1, D, h2, hI⟩
theorem wipe_is_ok (hI : Is D k dn bl hu ws) (n : Nat) (w : World) (h : Dsk w D) (hn : n < k) (hr : Z 256 ≠ bl n) (hh : hu n = false) :
    Calls Try.prog 36 #[.pointer (some ⟨D.d, 0, none⟩), .int .i64 n] w fun r w' => r = .returned (.int .i64 0) ∧ ∃ D', Mv w D w' D' ∧ Is D' k dn (upd bl n (Z 256)) (upd hu n true) ws := by
  refine (wipe_ok D n w h (by rw [hI.k]; exact hn) (by rw [hI.bl]; exact hr) (by rw [hI.hu]; exact hh)).mono fun r w' ⟨h1, h2⟩ => ⟨h1, _, h2, ⟨hI.k, hI.dn, hI.ar, ?_, ?_, hI.ws⟩⟩
  · show upd D.bl n (Z 256) = _
    rw [hI.bl]
  · show upd D.hu n true = _
    rw [hI.hu]
theorem field50 (a b c d e : Int) (g : Bool) (w : World) : (Instr.field 50 (.agg #[.int .i64 a, .int .i64 b, .int .i64 c, .int .i64 d, .int .i64 e, .bool g]) 2).run Try.prog w = .ok (.int .i64 c) w := by
  unfold Instr.field
  simp [Sem.run_bind, go_sem, asAgg]
theorem count_none {hu : Nat → Bool} (h : ∀ i, hu i = false) (k : Nat) : ((List.range k).filter hu).length = 0 := by
  rw [List.length_eq_zero_iff, List.filter_eq_nil_iff]
  intro a _
  rw [h a]; decide
theorem count_one {hu : Nat → Bool} {n : Nat} (h1 : hu n = true) (h : ∀ i, i ≠ n → hu i = false) : ∀ k, n < k → ((List.range k).filter hu).length = 1
  | 0, hk => by omega
  | k + 1, hk => by
    rw [List.range_succ, List.filter_append, List.length_append]
    by_cases e : n = k
    · subst e
      rw [List.filter_cons_of_pos h1]
      have : ((List.range n).filter hu).length = 0 := by
        rw [List.length_eq_zero_iff, List.filter_eq_nil_iff]
        intro a ha
        rw [h a (by have := List.mem_range.1 ha; omega)]; decide
      rw [this]; rfl
    · rw [count_one h1 h k (by omega), List.filter_cons_of_neg (by rw [h k (fun e' => e e'.symm)]; decide)]; rfl
theorem pad_full {l : List Nat} (h : l.length = 256) : pad l = l := by
  unfold pad
  rw [h]
  exact List.append_nil _
/-- a told block reads as bytes -/
theorem bs_cellsT {w : World} {g : Nat} {t : TypeId} {l : List Nat} (h : w.heap[g]? = some (.cells (bvs l).toArray t (0, 0))) (hs : Small l) (hl : l.length ≤ 1000000) : Bs w w.heap.size ⟨some ⟨g, 0, none⟩, l.length, l.length⟩ l :=
  ⟨rfl, hs, Nat.le_refl _, by simp only; omega, fun _ => ⟨g, 0, rfl, (Array.getElem?_eq_some_iff.1 h).1, fun i hi => by
    rw [Nat.zero_add, cell_of_row _ _ _ _ _ _ h, List.getElem?_toArray]
    simp only at hi
    unfold bvs bv
    rw [List.getElem?_map, List.getElem?_eq_getElem hi, List.getD_eq_getElem?_getD, List.getElem?_eq_getElem hi]
    rfl⟩⟩
theorem made5 (n : Nat) : madeCells #[.int .u8 0] n = (bvs (Z n)).toArray := by
  apply Array.ext'
  apply List.ext_getElem?
  intro i
  unfold madeCells bvs Z
  rw [Array.toList_map, Array.toList_range, List.getElem?_map]
  simp [List.getElem?_replicate]
  by_cases h : i < n
  · simp [h, Nat.mod_one]
  · simp [h]
theorem make24 (n : Nat) (hn : n ≤ 100000) (w : World) : (Instr.makeSlice 24 (.int .i64 n) (.int .i64 n)).run Try.prog w = .ok (.slice (some ⟨w.heap.size, 0, none⟩) n n) (w.alloc (.cells (bvs (Z n)).toArray 5)) := by
  obtain ⟨i, hi, hz, hs, hby⟩ := info_parts info5
  have h := run_makeSlice (P := Try.prog) w 24 5 i _ Try.underlying24 hi hz .i64 .i64 n n (by omega) (by omega) (by rw [hs]; omega) (by rw [hby]; omega) (by omega)
  rw [hs, Int.toNat_natCast, Nat.mul_one] at h
  rw [← made5]
  exact h
theorem gr_drewN {w : World} (m : Nat) : Gr w (w.drewN m) := ⟨rfl, rfl, rfl, Nat.le_refl _, fun _ _ => rfl⟩
/-- two told blocks are compared -/
theorem same_told {g1 g2 : Nat} {t1 t2 : TypeId} {l1 l2 : List Nat} {w : World} (h1 : w.heap[g1]? = some (.cells (bvs l1).toArray t1 (0, 0))) (h2 : w.heap[g2]? = some (.cells (bvs l2).toArray t2 (0, 0)))
    (s1 : Small l1) (s2 : Small l2) (e1 : l1.length = 256) (e2 : l2.length = 256) :
    Calls Try.prog 22 #[.slice (some ⟨g1, 0, none⟩) 256 256, .slice (some ⟨g2, 0, none⟩) 256 256] w fun e w' => e = .returned (.bool (decide (l1 = l2))) ∧ Gr w w' := by
  have b1 := bs_cellsT h1 s1 (by omega)
  have b2 := bs_cellsT h2 s2 (by omega)
  rw [e1] at b1
  rw [e2] at b2
  refine (same_two _ _ 256 256 256 256 _ l1 l2 w b1 b2).mono ?_
  rintro e w' ⟨rfl, m, rfl⟩
  exact ⟨rfl, gr_drewN m⟩
/-- noughts told are compared to noughts made -/
theorem same_zz {g1 g2 : Nat} {l : List Nat} {ZX : Array Value} {w : World} (h1 : w.heap[g1]? = some (.cells (bvs l).toArray 93 (0, 0))) (h2 : w.heap[g2]? = some (.cells ZX 5 (0, 0))) (hz : (bvs (Z 256)).toArray = ZX) (hl : l = Z 256) :
    Calls Try.prog 22 #[.slice (some ⟨g1, 0, none⟩) 256 256, .slice (some ⟨g2, 0, none⟩) 256 256] w fun e w' => e = .returned (.bool true) ∧ Gr w w' := by
  subst hl
  rw [← hz] at h2
  have h := same_told h1 h2 (small_zero 256) (small_zero 256) (Z_len 256) (Z_len 256)
  rw [decide_eq_true rfl] at h
  exact h
theorem gr_cells {w w' : World} {b : Nat} {o : Obj} (h : w.heap[b]? = some o) (hg : Gr w w') : w'.heap[b]? = some o := (hg.block b (Array.getElem?_eq_some_iff.1 h).1).trans h
/-- a disk that has moved on, and is so -/
def Sx (w0 : World) (D0 : Dk) (k : Nat) (dn : Bool) (bl : Nat → List Nat) (hu : Nat → Bool) (ws : List (Nat × List Nat)) (w : World) : Prop := ∃ D, Mv w0 D0 w D ∧ Is D k dn bl hu ws
theorem Sx.gr {w0 w w' : World} {D0 : Dk} (h : Sx w0 D0 k dn bl hu ws w) (hg : Gr w w') : Sx w0 D0 k dn bl hu ws w' := by
  obtain ⟨D, h1, h2⟩ := h
  exact ⟨D, h1.trans (Mv.gr h1.2.1 hg), h2⟩
theorem sx_stored {w0 w : World} {D0 : Dk} {n d : Nat} (h : Sx w0 D0 k dn bl hu ws w) (hn : n < k) (hd : D0.d = d) :
    Calls Try.prog 29 #[.pointer (some ⟨d, 0, none⟩), .int .i64 n] w fun r w' => ∃ b, r = .returned (.slice (some ⟨b, 0, none⟩) 256 256) ∧ w'.heap[b]? = some (.cells (bvs (bl n)).toArray 93 (0, 0)) ∧ Gr w w' := by
  obtain ⟨D, h1, h2⟩ := h
  have hc := stored_is h2 n w h1.2.1 hn
  rw [h1.d, hd] at hc
  exact hc.mono fun r w' ⟨b, _, h3, h4, h5⟩ => ⟨b, h4, h3, h5⟩
theorem sx_wipe {w0 w : World} {D0 : Dk} {n d : Nat} (h : Sx w0 D0 k dn bl hu ws w) (hn : n < k) (hd : D0.d = d) (hz : Z 256 = bl n) :
    Calls Try.prog 36 #[.pointer (some ⟨d, 0, none⟩), .int .i64 n] w fun r w' => r = .returned (.int .i64 2) ∧ Sx w0 D0 k dn bl hu ws w' := by
  obtain ⟨D, h1, h2⟩ := h
  have hc := wipe_is_same h2 n w h1.2.1 hn hz
  rw [h1.d, hd] at hc
  exact hc.mono fun r w' ⟨h3, D', h4, h5⟩ => ⟨h3, D', h1.trans h4, h5⟩
theorem sx_rot {w0 w : World} {D0 : Dk} {n d : Nat} (h : Sx w0 D0 k dn bl hu ws w) (hn : n < k) (hd : D0.d = d) (hz : bl n = Z 256) (hh : hu n = true) :
    Calls Try.prog 35 #[.pointer (some ⟨d, 0, none⟩), .int .i64 n, .int .i64 9, .int .u32 1] w fun r w' => r = .returned (.int .i64 16) ∧ Sx w0 D0 k dn bl hu ws w' := by
  obtain ⟨D, h1, h2⟩ := h
  have hc := rot_is_hurt h2 n 9 1 w h1.2.1 hn (by omega) (by rw [hz]; exact rotV_one (Z_len 256) 9 (by omega) (by omega)) hh
  rw [h1.d, hd] at hc
  exact hc.mono fun r w' ⟨h3, D', h4, h5⟩ => ⟨h3, D', h1.trans h4, h5⟩
end Go.Proofs.Ytkdphgcbecldbaa
