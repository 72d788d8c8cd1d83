/- The laws of layer 3: padded (33). -/
import Derived.Test.YtkdphgcbecldbaaDevGG
namespace Go.Proofs.Ytkdphgcbecldbaa
open Go.RowKit
theorem splice_take (l : List Nat) : splice (bvs (Z 256)) 0 (bvs (l.take 256)) = bvs (pad (l.take 256)) := by
  unfold splice pad
  rw [List.take_zero, List.nil_append, Nat.zero_add, bvs_append]
  congr 1
  have h : (bvs (l.take 256)).length = (l.take 256).length := bvs_len _
  rw [h]
  unfold Z
  rw [← bvs_drop, List.drop_replicate]
set_option maxRecDepth 100000 in
set_option maxHeartbeats 1000000 in
theorem padded_ok (A : Option Addr) (len c : Nat) (l : List Nat) (B : Nat) (w : World) (hb : Bs w B ⟨A, len, c⟩ l) (hlen : len ≤ 140737488351232) :
    Calls Try.prog 33 #[.slice A len c] w fun r w' => Gr w w' ∧ ((len ≤ 256 ∧ ∃ b, w.heap.size ≤ b ∧ r = .returned (.slice (some ⟨b, 0, none⟩) 256 256) ∧ w'.heap[b]? = some (.cells (bvs (pad l)).toArray 5 (0, 0))) ∨ (256 < len ∧ r = .returned (.slice none 0 0))) := by
  have hll : l.length = len := hb.1.symm
  have hmk : ∀ W : World, (Instr.makeSlice 24 (.int .i64 256) (.int .i64 256)).run Try.prog W = .ok (.slice (some ⟨W.heap.size, 0, none⟩) 256 256) (W.alloc (.cells (bvs (Z 256)).toArray 5)) := make24 256 (by decide)
  have hsrc : ∀ ad, A = some ad → ∀ j u, (bvs (l.take 256))[j]? = some u → (w.alloc (.cells (bvs (Z 256)).toArray 5)).cell? (ad.add j) = some u := by
    intro ad had j u hu
    obtain ⟨hj, rfl⟩ := bvs_at hu
    have hj2 : j < l.length := by rw [List.length_take] at hj; omega
    obtain ⟨b, o, hA, hbB, hx⟩ := hb.at_ (show 0 < len by omega)
    simp only at hA
    have e : ad = ⟨b, o, none⟩ := by rw [had] at hA; injection hA
    subst e
    have hx' := hx j (show j < len by omega)
    rw [Addr.add_lit, Below.cell (Gr.at_alloc w _) (World.block_lt_of_cell? w _ hx'), hx']
    rw [List.getD_eq_getElem?_getD, List.getD_eq_getElem?_getD, List.getElem?_take, if_pos (by rw [List.length_take] at hj; omega)]
  have HCUR := Lib.hid (heap_alloc_new w (.cells (bvs (Z 256)).toArray 5))
  have HGR := Lib.hid (Gr.at_alloc w (.cells (bvs (Z 256)).toArray 5))
  have HSRC := Lib.hid hsrc
  have HL := Lib.hid hll
  have HB := Lib.hid hb
  clear hsrc hll hb
  go_enter Try.func33, Try.ntmps33
  go_wp2_with (refine wpList_copy_splice (o := ⟨some 7, _, _, _, _, _⟩) rfl (.tmp 5) (.tmp 6) 24 24 rfl 5 Try.underlying24 size5 (some ⟨w.heap.size, 0, none⟩) A 256 256 len c rfl rfl w.heap.size 0 (bvs (Z 256)) 5 HCUR.out (bvs (l.take 256)) ?cn ?cp ?cf (bvs_one _) w.heap.size w HGR.out (Nat.le_refl _) ?_)
  case cn => rw [bvs_len, List.length_take, HL.out, Nat.min_comm]
  case cp =>
    intro hpos
    rw [bvs_len, List.length_take, HL.out] at hpos
    obtain ⟨b, o, hA, _⟩ := HB.out.at_ (show 0 < len by omega)
    exact ⟨_, hA, HSRC.out _ hA⟩
  case cf => rw [bvs_len, List.length_take, bvs_len, Z_len]; omega
  intro w2 hw2 hg2
  have hw2' : w2.heap[w.heap.size]? = some (.cells (bvs (pad (l.take 256))).toArray 5 (0, 0)) := by
    have := hw2.out
    rw [splice_take] at this
    exact this
  have HX := Lib.hid hw2'
  have HG2 : Hid (Gr w w2) := Lib.hid hg2
  clear hw2 hg2 hw2' HCUR HGR HSRC hmk HB
  by_cases h3 : len ≤ 256
  · go_wp2_with fail
    go_ret
    refine ⟨HG2.out, .inl ⟨h3, _, Nat.le_refl _, rfl, ?_⟩⟩
    have := HX.out
    rw [List.take_of_length_le (by rw [HL.out]; exact h3)] at this
    exact this
  · have h4 : (256 : Int) < len := by omega
    go_wp2_with fail
    go_ret
    exact ⟨HG2.out, .inr ⟨by omega, rfl⟩⟩
end Go.Proofs.Ytkdphgcbecldbaa
