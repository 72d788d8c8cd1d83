/- The disk: a block, a hurt is turned. No program in sight. -/
import Derived.Test.YtkdphgcbecldbaaDevI
namespace Go.Proofs.Ytkdphgcbecldbaa
open Go.RowKit
def upd {α : Type} (f : Nat → α) (n : Nat) (x : α) : Nat → α := fun i => if i = n then x else f i
theorem upd_same {α : Type} (f : Nat → α) (n : Nat) (x : α) : upd f n x n = x := if_pos rfl
theorem upd_other {α : Type} (f : Nat → α) {n i : Nat} (x : α) (h : i ≠ n) : upd f n x i = f i := if_neg h
/-- the first bytes of a block are others -/
def over (p b : List Nat) : List Nat := p ++ b.drop p.length
theorem over_len {p b : List Nat} (h : p.length ≤ b.length) : (over p b).length = b.length := by unfold over; rw [List.length_append, List.length_drop]; omega
theorem small_over {p b : List Nat} (hp : Small p) (hb : Small b) : Small (over p b) := fun x hx => by
  rcases List.mem_append.1 hx with h | h
  · exact hp x h
  · exact hb x (List.mem_of_mem_drop h)
/-- cells of a block of the disk's, of the hurts' -/
theorem Dsk.turned {S : Nat → Prop} {w w3 : World} {D : Dk} (h : Dsk w D) (hk : Kp S w w3) (h1 : ¬ S D.d) (hv : ∀ b, D.wv.ownBlock = some b → ¬ S b) {bl' : Nat → List Nat} {hu' : Nat → Bool}
    (b1 : ∀ i, i < D.k → w3.rangeAt D.bb (i * 256) (bvs (bl' i))) (b2 : w3.there D.bb 0 (D.k * 256)) (b3 : ∀ i, i < D.k → (bl' i).length = 256 ∧ Small (bl' i))
    (h2 : ∀ i, i < D.k → w3.cell? ⟨D.hb, i, none⟩ = some (.bool (hu' i))) (h3 : w3.there D.hb 0 D.k) : Dsk w3 { D with bl := bl', hu := hu' } := by
  have d4 := h.o4; have d7 := h.o7
  have cd : ∀ i, w3.cell? ⟨D.d, i, none⟩ = w.cell? ⟨D.d, i, none⟩ := fun i => hk.cell (p := ⟨D.d, i, none⟩) (by simp only; omega) h1
  have fd : ∀ i, w3.frozen? ⟨D.d, i, none⟩ = w.frozen? ⟨D.d, i, none⟩ := fun i => hk.frozen (p := ⟨D.d, i, none⟩) (by simp only; omega) h1
  refine ⟨h.kpos, h.kle, fun j v hv => (cd _).trans (h.row j v hv), fun j hj => ?_, b1, b2, b3, h2, h3, ?_, h.wsn, h.o1, h.o2, h.o3, d4, h.o5, h.o6, Nat.le_trans d7 hk.size, h.arm⟩
  · show (w3.cell? ⟨D.d, 0 + j, none⟩).isSome = true ∧ w3.frozen? ⟨D.d, 0 + j, none⟩ = false
    rw [cd, fd]; exact h.rowT j hj
  · obtain ⟨hl, h1 | ⟨g, cap, cur, hv', hg, hh, hr⟩⟩ := h.own
    · exact ⟨hl, .inl h1⟩
    · have hlt := (h.own_ge (b := g) (by rw [hv']; rfl)).2
      exact ⟨hl, .inr ⟨g, cap, cur, hv', hg, (hk.block g hlt (hv g (by rw [hv']; rfl))).trans hh, hr⟩⟩
theorem bvs_append (a b : List Nat) : bvs (a ++ b) = bvs a ++ bvs b := List.map_append ..
theorem bvs_drop (a : List Nat) (n : Nat) : bvs (a.drop n) = (bvs a).drop n := List.map_drop ..
/-- the first bytes of a block are written -/
theorem Mv.bytes {w : World} {D : Dk} (h : Dsk w D) {n : Nat} (hn : n < D.k) {p : List Nat} (hp : p.length ≤ 256) (hs : Small p) :
    Mv w D (w.setCells D.bb (n * 256) (bvs p)) { D with bl := upd D.bl n (over p (D.bl n)) } := by
  have d5 := h.o5; have d7 := h.o7
  have hlen := (h.bln n hn).1
  have kk : Kp (fun b => b = D.bb) w (w.setCells D.bb (n * 256) (bvs p)) := Kp.setCells (S := fun b => b = D.bb) D.bb (.inl rfl) _ _ _ (Kp.refl _ _)
  have hth : w.there D.bb (n * 256) p.length := fun j hj => by
    have := h.blT (n * 256 + j) (by have : (n + 1) * 256 ≤ D.k * 256 := Nat.mul_le_mul_right _ hn; omega)
    rwa [Nat.zero_add] at this
  refine ⟨kk.mono fun i hi => .inr (.inl hi), ?_, fun b hb => .inl hb, rfl⟩
  refine Dsk.turned (D := D) (hu' := D.hu) h kk (fun e => h.o1 e) (fun b hb e => ?_) ?_ ?_ ?_ ?_ ?_
  · subst e; exact h.not_own d5 hb
  · intro i hi
    by_cases hin : i = n
    · subst hin
      rw [upd_same]
      unfold over
      rw [bvs_append, bvs_drop]
      intro j v hv
      by_cases hj : j < (bvs p).length
      · rw [List.getElem?_append_left hj] at hv
        exact World.rangeAt_setCells_same w D.bb (i * 256) (bvs p) (by rw [bvs_len]; exact hth) j v hv
      · rw [List.getElem?_append_right (by omega), List.getElem?_drop] at hv
        rw [World.cell?_setCells_out D.bb (bvs p) (i * 256) w ⟨D.bb, i * 256 + j, none⟩ (fun _ _ => .inr (by show i * 256 + (bvs p).length ≤ i * 256 + j; omega))]
        refine h.bls i hi j v ?_
        rw [bvs_len] at hv hj
        rw [show j = p.length + (j - p.length) by omega]
        exact hv
    · rw [upd_other _ _ hin]
      refine World.rangeAt_setCells_apart (h.bls i hi) D.bb (n * 256) (bvs p) (.inr ?_)
      rw [bvs_len, bvs_len, (h.bln i hi).1]
      rcases Nat.lt_or_ge i n with hlt | hge
      · left
        have : (i + 1) * 256 ≤ n * 256 := Nat.mul_le_mul_right _ hlt
        omega
      · right
        have : (n + 1) * 256 ≤ i * 256 := Nat.mul_le_mul_right _ (by omega)
        omega
  · exact World.there_setCells h.blT _ _ _
  · intro i hi
    by_cases hin : i = n
    · subst hin
      rw [upd_same]
      exact ⟨by rw [over_len (by omega), hlen], small_over hs (h.bln i hi).2⟩
    · rw [upd_other _ _ hin]; exact h.bln i hi
  · intro i hi
    rw [kk.cell (p := ⟨D.hb, i, none⟩) (by have := h.o6; simp only; omega) (fun e => h.o3 e.symm)]
    exact h.hus i hi
  · exact World.there_setCells h.huT _ _ _
/-- a block's hurt is turned -/
theorem Mv.hurt {w : World} {D : Dk} (h : Dsk w D) {n : Nat} (hn : n < D.k) (v : Bool) :
    Mv w D (w.setCell ⟨D.hb, n, none⟩ (.bool v)) { D with hu := upd D.hu n v } := by
  have d5 := h.o5; have d6 := h.o6; have d7 := h.o7
  have kk : Kp (fun b => b = D.hb) w (w.setCell ⟨D.hb, n, none⟩ (.bool v)) := (Kp.refl (fun b => b = D.hb) w).setCell (.inl rfl) _
  refine ⟨kk.mono fun i hi => .inr (.inr (.inl hi)), ?_, fun b hb => .inl hb, rfl⟩
  refine Dsk.turned (D := D) (bl' := D.bl) h kk (fun e => h.o2 e) (fun b hb e => ?_) ?_ ?_ h.bln ?_ ?_
  · subst e; exact h.not_own d6 hb
  · intro i hi
    exact World.rangeAt_setCells_apart (h.bls i hi) D.hb n [.bool v] (.inl h.o3)
  · exact World.there_setCells h.blT D.hb n [.bool v]
  · intro i hi
    by_cases hin : i = n
    · subst hin
      rw [upd_same, World.cell?_setCell_same _ _ _ (h.hus i hi)]
    · rw [upd_other _ _ hin, World.cell?_setCell_other _ _ _ _ (by intro e; injection e with _ e; exact hin e.symm)]
      exact h.hus i hi
  · exact World.there_setCells h.huT D.hb n [.bool v]
end Go.Proofs.Ytkdphgcbecldbaa
