/- What came in, opened: a slice of bytes reads as a list of bytes, within the form's own reach. -/
import Derived.Test.YtkdphgcbecldbaaRows
import Derived.Test.YtkdphgcbecldbaaWords
import Derived.ProofKit
import Derived.OpenShut
import Derived.ShutString
import Derived.ChangeOld
import Derived.SizedLaws
namespace Go.Proofs.Ytkdphgcbecldbaa
open Go.ChangeShapes Go.WideShapes Go.ChangeAt Go.RowKit
open Go.ChangeMaps (open_string shut_string)

theorem own : ownKnob Try.prog.godebug = none := by kernel_rfl
theorem laidOut : laidOutB Try.prog = true := by kernel_rfl
theorem bytes5 : Try.prog.bytesOf 5 = 1 := by kernel_rfl

/-- a cell that is there lies at a plain address -/
theorem plain_of_cell {w : World} {a : Addr} {v : Value} (h : w.cell? a = some v) : a = ⟨a.block, a.off, none⟩ ∧ a.block < w.heap.size := by
  refine ⟨?_, World.block_lt_of_cell? w a h⟩
  obtain ⟨b, o, s⟩ := a
  unfold World.cell? at h
  split at h
  · cases s with
    | none => rfl
    | some s => simp at h
  · cases h
theorem bs_of_ints {W : World} {B : Nat} {x : Addr} {n c : Nat} {zs : List Int} (hn : n ≤ c) (hc : c ≤ maxLen) (hz : zs.length = c) (hcell : ∀ i, i < zs.length → W.cell? (x.add i) = some (.int .u8 (zs.getD i 0))) (hw : ∀ m ∈ zs, (Lit.int .u8 m).wf = true) (hB : W.heap.size ≤ B) :
    Bs W B ⟨some x, n, c⟩ ((zs.take n).map Int.toNat) := by
  have hwf : ∀ m ∈ zs, 0 ≤ m ∧ m < 256 := fun m hm => by
    have := hw m hm
    have h2 := bounds_u8 this
    omega
  refine ⟨by simp only [List.length_map, List.length_take]; omega, ?_, hn, by unfold maxLen at hc; exact hc, fun h0 => ?_⟩
  · intro y hy
    obtain ⟨m, hm, rfl⟩ := List.mem_map.1 hy
    have := hwf m (List.mem_of_mem_take hm)
    omega
  · simp only at h0
    have hx := hcell 0 (by omega)
    rw [Addr.add, if_pos rfl] at hx
    obtain ⟨e, hlt⟩ := plain_of_cell hx
    refine ⟨x.block, x.off, by simp only; exact congrArg some e, by omega, fun i hi => ?_⟩
    simp only at hi
    have hxi := hcell i (by omega)
    rw [e, Addr.add_lit] at hxi
    rw [hxi]
    have hi2 : i < zs.length := by omega
    have hm := hwf zs[i] (List.getElem_mem hi2)
    have e1 : ((zs.take n).map Int.toNat).getD i 0 = (zs[i]).toNat := by
      rw [List.getD_eq_getElem?_getD, List.getElem?_map, List.getElem?_take, if_pos hi, List.getElem?_eq_getElem hi2]; rfl
    have e2 : zs.getD i 0 = zs[i] := by rw [List.getD_eq_getElem?_getD, List.getElem?_eq_getElem hi2]; rfl
    unfold bv
    rw [e1, e2, Int.toNat_of_nonneg hm.1]

theorem bs_nil (W : World) (B : Nat) : Bs W B ⟨none, 0, 0⟩ [] := by
  refine ⟨rfl, ?_, Nat.le_refl _, by simp only; omega, fun h => absurd h (by simp)⟩
  intro x hx
  cases hx
theorem open24 {H : Type} {enc : TypeId × Value → H} {W : World} {ts : List TypeId} {ds : List (DataW H)} (hsz : (DataW.weightsEach Try.prog ts ds).all (· ≤ reachBytes) = true)
    {j : Nat} (ht : ts[j]? = some 24) {d : DataW H} (hd : ds[j]? = some d) {a : Option Addr} {n c : Nat} {p : List MemPlace} (h : DataW.Trod enc Try.prog W 0 (fun _ => true) true 24 (.slice a n c) d p) :
    ∃ l, Bs W W.heap.size ⟨a, n, c⟩ l ∧ c ≤ 140737488351232 ∧ (a = none → c = 0) := by
  obtain ⟨fuel, hf⟩ := h
  rcases open_ints Try.underlying24 Try.underlying5 (by kernel_rfl) hf with ⟨hcs, _⟩ | ⟨x, l, c', zs, hcs, _, hl, hm, hz, hx, hcell, hwz⟩
  · simp [Value.cells] at hcs
    obtain ⟨rfl, rfl, rfl⟩ := hcs
    exact ⟨[], bs_nil W _, by omega, fun _ => rfl⟩
  · simp [Value.cells] at hcs
    obtain ⟨rfl, rfl, rfl⟩ := hcs
    have hz' : zs.length = c := by simpa using hz
    simp only [Prod.mk.injEq] at hx
    have hr := sized_slice hsz (j := j) (t := 24) (e := 5) ht (hd.trans (congrArg some hx.1)) Try.underlying24
    rw [bytes5] at hr
    simp only [lits, List.length_map, List.length_take, List.length_drop, reachBytes] at hr
    exact ⟨_, bs_of_ints hl hm hz' hcell hwz (Nat.le_refl _), by omega, fun e => by cases e⟩
theorem nat_u32 {y : Int} (h : (Lit.int .u32 y).wf = true) : ∃ x : Nat, x < 4294967296 ∧ y = (x : Int) := by
  have := bounds_u32 h
  exact ⟨y.toNat, by omega, by omega⟩
end Go.Proofs.Ytkdphgcbecldbaa
