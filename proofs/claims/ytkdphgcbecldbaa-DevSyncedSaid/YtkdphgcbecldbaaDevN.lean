/- The disk: Sync. -/
import Derived.Test.YtkdphgcbecldbaaDevM
import Derived.Test.YtkdphgcbecldbaaDevJ
namespace Go.Proofs.Ytkdphgcbecldbaa
open Go.RowKit
theorem lc_len {e : Nat × List Nat} (h : e.2.length = 256) : (lc e).length = 257 := by unfold lc; rw [List.length_cons, bvs_len, h]
theorem lrow_at : ∀ (ws : List (Nat × List Nat)) (_ : ∀ e, e ∈ ws → e.2.length = 256) (i : Nat) (hi : i < ws.length) (j : Nat), j < 257 → (lrow ws)[i * 257 + j]? = (lc ws[i])[j]?
  | [], _, i, hi, _, _ => by cases hi
  | e :: r, h, i, hi, j, hj => by
    have h0 : (lc e).length = 257 := lc_len (h e (List.mem_cons_self ..))
    have e1 : lrow (e :: r) = lc e ++ lrow r := by unfold lrow; rw [List.map_cons, List.flatten_cons]
    rw [e1]
    cases i with
    | zero => rw [Nat.zero_mul, Nat.zero_add, List.getElem?_append_left (by omega)]; rfl
    | succ i =>
      rw [List.getElem?_append_right (by omega), show (i + 1) * 257 + j - (lc e).length = i * 257 + j by omega]
      rw [lrow_at r (fun e he => h e (List.mem_cons_of_mem _ he)) i (by simpa using hi) j hj]
      rfl
/-- a write that waits, as memory has it -/
theorem Dsk.wait {w : World} {D : Dk} (h : Dsk w D) (hn : 0 < D.ws.length) : ∃ g cap, D.wv = .slice (some ⟨g, 0, none⟩) D.ws.length cap ∧ D.ws.length ≤ cap ∧ ∀ i (hi : i < D.ws.length), w.rangeAt g (i * 257) (lc D.ws[i]) := by
  obtain ⟨hl, ⟨_, h0⟩ | ⟨g, cap, cur, hv, hg, hh, hle, hc1, hc2, hr⟩⟩ := h.own
  · omega
  · refine ⟨g, cap, hv, hle, fun i hi j v hv' => ?_⟩
    have hj : j < 257 := by
      have h1 : j < (lc D.ws[i]).length := (List.getElem?_eq_some_iff.1 hv').1
      rwa [lc_len (h.wsn _ (List.getElem_mem hi)).2.1] at h1
    rw [cell_of_row w g _ _ _ _ hh, ← hv', ← lrow_at D.ws (fun e he => (h.wsn e he).2.1) i hi j hj, ← hr, List.getElem?_take, if_pos (by have : (i + 1) * 257 ≤ D.ws.length * 257 := Nat.mul_le_mul_right _ hi; omega), Array.getElem?_toList]
theorem Dsk.wait_nil {w : World} {D : Dk} (h : Dsk w D) (hn : D.ws = []) : ∃ A cap, D.wv = .slice A 0 cap := by
  obtain ⟨hl, ⟨hv, _⟩ | ⟨g, cap, cur, hv, _⟩⟩ := h.own
  · exact ⟨none, 0, hv⟩
  · rw [hn] at hv; exact ⟨_, cap, hv⟩
end Go.Proofs.Ytkdphgcbecldbaa
