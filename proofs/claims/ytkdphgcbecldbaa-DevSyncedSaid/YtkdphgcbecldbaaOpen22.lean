/- What came in, opened: a slice of slices of bytes, within the form's own reach. -/
import Derived.Test.YtkdphgcbecldbaaOpen
import Derived.Deep.Matrix
namespace Go.Proofs.Ytkdphgcbecldbaa
open Go.ChangeShapes Go.WideShapes Go.ChangeAt Go.RowKit Go.Deep

theorem bytes24 : Try.prog.bytesOf 24 = 24 := by kernel_rfl
theorem cells24 : Try.prog.cellsOf 24 = 1 := by kernel_rfl
theorem cells5 : Try.prog.cellsOf 5 = 1 := by kernel_rfl
theorem weights_mem_all {H : Type} {P : Program} {e : TypeId} : ∀ {ds : List (DataW H)} {i : Nat} {d : DataW H}, ds[i]? = some d → ∀ n ∈ d.weights P e, n ∈ DataW.weightsAll P e ds
  | d0 :: ds, 0, d, hd, n, hn => by
    simp only [List.getElem?_cons_zero, Option.some.injEq] at hd
    subst hd
    simp only [DataW.weightsAll, List.mem_append]
    exact Or.inl hn
  | d0 :: ds, i + 1, d, hd, n, hn => by
    simp only [List.getElem?_cons_succ] at hd
    simp only [DataW.weightsAll, List.mem_append]
    exact Or.inr (weights_mem_all hd n hn)
theorem rangeMap_getD {α : Type} (f : Nat → α) (d : α) (n i : Nat) (h : i < n) : ((List.range n).map f).getD i d = f i := by
  rw [List.getD_eq_getElem?_getD, List.getElem?_map, List.getElem?_range h]; rfl

theorem open22 {H : Type} {enc : TypeId × Value → H} {W : World} {ts : List TypeId} {ds : List (DataW H)} (hsz : (DataW.weightsEach Try.prog ts ds).all (· ≤ reachBytes) = true)
    {j : Nat} (ht : ts[j]? = some 22) {d : DataW H} (hd : ds[j]? = some d) {a : Option Addr} {n c : Nat} {p : List MemPlace} (h : DataW.Trod enc Try.prog W 0 (fun _ => true) true 22 (.slice a n c) d p) :
    ∃ (ss : List Sl) (ls : List (List Nat)), Rs W W.heap.size ⟨a, n, c⟩ ss ls ∧ ((∀ i, i < n → (ls.getD i []).length ≤ 140737488351232) ∧ n ≤ 140737488351232) ∧ (∀ i, i < n → (ss.getD i ⟨none, 0, 0⟩).a = none → (ss.getD i ⟨none, 0, 0⟩).c = 0) := by
  obtain ⟨fuel, hf⟩ := h
  rcases open_int_rows Try.underlying22 Try.underlying24 Try.underlying5 cells24 cells5 hf with ⟨hcs, _⟩ | ⟨x, l, cp, A, L, C, Z, hcs, _, hl, hm, hx, hrow⟩
  · simp [Value.cells] at hcs
    obtain ⟨rfl, rfl, rfl⟩ := hcs
    exact ⟨[], [], ⟨rfl, rfl, ⟨Nat.le_refl _, by simp only; omega, fun h => absurd h (by simp)⟩, fun i hi => absurd hi (by simp)⟩, ⟨fun i hi => absurd hi (by omega), by omega⟩, fun i hi => absurd hi (by omega)⟩
  · simp [Value.cells] at hcs
    obtain ⟨rfl, rfl, rfl⟩ := hcs
    simp only [Prod.mk.injEq] at hx
    have hd' := hd.trans (congrArg some hx.1)
    have hr := sized_slice hsz (j := j) (t := 22) (e := 24) ht hd' Try.underlying22
    rw [bytes24] at hr
    simp only [List.length_map, List.length_range, reachBytes] at hr
    have hC : ∀ r, r < n → C r ≤ 140737488351232 := fun r hr' => by
      obtain ⟨hc1, hL, hCm, hZ, hw, hnil, hA⟩ := hrow r (by omega)
      cases hAr : A r with
      | none => rw [hnil hAr]; omega
      | some a' =>
        have hmem : C r * Try.prog.bytesOf 5 ∈ DataW.weightsEach Try.prog ts ds := by
          refine DataW.weights_mem_each ht hd' _ ?_
          simp only [DataW.weights, Try.underlying22, List.mem_cons, List.mem_append]
          refine Or.inr (Or.inl (weights_mem_all (i := r) (d := intRow .u8 (A r) (L r) (Z r)) ?_ _ ?_))
          · rw [List.getElem?_map, List.getElem?_range hr']; rfl
          · rw [hAr]
            simp only [intRow, DataW.weights, Try.underlying24, List.mem_cons]
            refine Or.inl ?_
            simp only [lits, List.length_map, List.length_take, List.length_drop]
            congr 1
            omega
        have := List.all_eq_true.1 hsz _ hmem
        rw [bytes5] at this
        simp [reachBytes] at this
        omega
    refine ⟨(List.range n).map fun r => ⟨A r, L r, C r⟩, (List.range n).map fun r => ((Z r).take (L r)).map Int.toNat, ⟨by simp, by simp, ⟨hl, by unfold maxLen at hm; exact hm, fun h0 => ?_⟩, fun i hi => ?_⟩, ⟨fun i hi => ?_, by omega⟩, fun i hi => ?_⟩
    · simp only at h0
      have hx0 := (hrow 0 (by omega)).1
      rw [Addr.add, if_pos rfl] at hx0
      obtain ⟨e, hlt⟩ := plain_of_cell hx0
      refine ⟨x.block, x.off, by simp only; exact congrArg some e, hlt, fun i hi => ?_⟩
      simp only at hi
      have hxi := (hrow i (by omega)).1
      rw [e, Addr.add_lit] at hxi
      rw [hxi]
      show _ = some (Sl.v _)
      rw [rangeMap_getD _ _ _ _ hi]
      rfl
    · simp only at hi
      rw [rangeMap_getD _ _ _ _ hi, rangeMap_getD _ _ _ _ hi]
      obtain ⟨hc1, hL, hCm, hZ, hw, hnil, hA⟩ := hrow i (by omega)
      cases hAr : A i with
      | none =>
        have h1 := hnil hAr
        have h2 : L i = 0 := by omega
        rw [h1, h2]
        exact bs_nil W _
      | some a' => exact bs_of_ints hL hCm hZ (fun q hq => (hA a' hAr).2 q (by omega)) hw (Nat.le_refl _)
    · rw [rangeMap_getD _ _ _ _ hi, List.length_map, List.length_take]
      have := hC i hi
      obtain ⟨_, hL, _⟩ := hrow i (by omega)
      omega
    · rw [rangeMap_getD _ _ _ _ hi]
      exact (hrow i (by omega)).2.2.2.2.2.1
end Go.Proofs.Ytkdphgcbecldbaa
