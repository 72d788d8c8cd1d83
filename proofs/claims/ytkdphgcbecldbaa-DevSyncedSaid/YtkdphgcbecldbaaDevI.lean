/- The disk: its waits are turned. No program in sight. -/
import Derived.Test.YtkdphgcbecldbaaDevH
namespace Go.Proofs.Ytkdphgcbecldbaa
open Go.RowKit
theorem Dsk.waits {S : Nat → Prop} {w w3 : World} {D : Dk} (h : Dsk w D) (hk : Kp S w w3) (h1 : ¬ S D.d) (h2 : ¬ S D.bb) (h3 : ¬ S D.hb) {v : Value} {ws' : List (Nat × List Nat)}
    (own : w3.ownsRow D.base 95 257 v ws'.length (lrow ws')) (hws : ∀ e, e ∈ ws' → e.1 < D.k ∧ e.2.length = 256 ∧ Small e.2) :
    Dsk (w3.setCell ⟨D.d, 6, none⟩ v) { D with wv := v, ws := ws' } := by
  have d4 := h.o4; have d5 := h.o5; have d6 := h.o6; have d7 := h.o7
  have cd : ∀ i, w3.cell? ⟨D.d, i, none⟩ = w.cell? ⟨D.d, i, none⟩ := fun i => hk.cell (p := ⟨D.d, i, none⟩) (by simp only; omega) h1
  have fd : ∀ i, w3.frozen? ⟨D.d, i, none⟩ = w.frozen? ⟨D.d, i, none⟩ := fun i => hk.frozen (p := ⟨D.d, i, none⟩) (by simp only; omega) h1
  have cb : ∀ i, w3.cell? ⟨D.bb, i, none⟩ = w.cell? ⟨D.bb, i, none⟩ := fun i => hk.cell (p := ⟨D.bb, i, none⟩) (by simp only; omega) h2
  have fb : ∀ i, w3.frozen? ⟨D.bb, i, none⟩ = w.frozen? ⟨D.bb, i, none⟩ := fun i => hk.frozen (p := ⟨D.bb, i, none⟩) (by simp only; omega) h2
  have ch : ∀ i, w3.cell? ⟨D.hb, i, none⟩ = w.cell? ⟨D.hb, i, none⟩ := fun i => hk.cell (p := ⟨D.hb, i, none⟩) (by simp only; omega) h3
  have fh : ∀ i, w3.frozen? ⟨D.hb, i, none⟩ = w.frozen? ⟨D.hb, i, none⟩ := fun i => hk.frozen (p := ⟨D.hb, i, none⟩) (by simp only; omega) h3
  have co : ∀ b i, b ≠ D.d → (w3.setCell ⟨D.d, 6, none⟩ v).cell? ⟨b, i, none⟩ = w3.cell? ⟨b, i, none⟩ := fun b i hb => World.cell?_setCell_other _ _ _ _ (by intro e; injection e with e; exact hb e.symm)
  have rowT : w3.there D.d 0 7 := fun j hj => by rw [cd, fd]; exact h.rowT j hj
  have blT : w3.there D.bb 0 (D.k * 256) := fun j hj => by rw [cb, fb]; exact h.blT j hj
  have huT : w3.there D.hb 0 D.k := fun j hj => by rw [ch, fh]; exact h.huT j hj
  obtain ⟨u, hu⟩ : ∃ u, w3.cell? ⟨D.d, 6, none⟩ = some u := by
    have := (rowT 6 (by omega)).1
    rw [Nat.zero_add] at this
    exact Option.isSome_iff_exists.1 this
  refine ⟨h.kpos, h.kle, ?_, ?_, ?_, ?_, h.bln, ?_, ?_, ?_, hws, h.o1, h.o2, h.o3, d4, d5, d6, ?_, h.arm⟩
  · intro i x hx
    show (w3.setCell ⟨D.d, 6, none⟩ v).cell? ⟨D.d, 0 + i, none⟩ = _
    rw [Nat.zero_add]
    have hx' : (D.row.set 6 v)[i]? = some x := hx
    by_cases hij : i = 6
    · subst hij
      have hlt : 6 < D.row.length := by show 6 < 7; omega
      rw [List.getElem?_set_self hlt] at hx'
      injection hx' with hx'
      subst hx'
      rw [World.cell?_setCell_same _ _ _ hu]
    · rw [List.getElem?_set_ne (Ne.symm hij)] at hx'
      rw [World.cell?_setCell_other _ _ _ _ (by intro e; injection e with _ e; exact hij e.symm), cd]
      have := h.row i x hx'
      rwa [Nat.zero_add] at this
  · exact World.there_setCells rowT D.d 6 [v]
  · intro i hi j' x hx
    rw [co _ _ (Ne.symm h.o1), cb]
    exact h.bls i hi j' x hx
  · exact World.there_setCells blT D.d 6 [v]
  · intro i hi
    rw [co _ _ (Ne.symm h.o2), ch]
    exact h.hus i hi
  · exact World.there_setCells huT D.d 6 [v]
  · obtain ⟨hl, h1 | ⟨g, cap, cur, hv, hg, hh, hr⟩⟩ := own
    · exact ⟨hl, .inl h1⟩
    · exact ⟨hl, .inr ⟨g, cap, cur, hv, hg, (Below.heap_setCell w3 _ v g (by simp only; omega)).trans hh, hr⟩⟩
  · show D.base ≤ (w3.setCell _ v).heap.size
    have := hk.size
    simp only [World.setCell, Array.size_modify]
    omega
theorem Dsk.not_own {w : World} {D : Dk} (h : Dsk w D) {b : Nat} (hb : b < D.base) : ¬ D.wv.ownBlock = some b := fun e => by
  have := (h.own_ge e).1
  omega
/-- what is appended is laid down -/
theorem Mv.app {w w3 : World} {D : Dk} {o : Obj} {n : Nat} {l : List Nat} {gg cap : Nat} (h : Dsk w D) (hn : n < D.k) (hl : l.length = 256) (hs : Small l)
    (own : w3.ownsRow D.base 95 257 (.slice (some ⟨gg, 0, none⟩) (D.ws.length + 1) cap) (D.ws.length + 1) (lrow D.ws ++ lc (n, l))) (hg : (w.alloc o).drew.grownBy w3 D.wv.ownBlock) (hat : D.wv.ownBlock = some gg ∨ gg = w.heap.size + 1) :
    Mv w D (w3.setCell ⟨D.d, 6, none⟩ (.slice (some ⟨gg, 0, none⟩) (D.ws.length + 1) cap)) { D with wv := .slice (some ⟨gg, 0, none⟩) (D.ws.length + 1) cap, ws := D.ws ++ [(n, l)] } := by
  have k1 : Kp (fun b => D.wv.ownBlock = some b) w (w.alloc o).drew := Kp.of_gr (Below.drew (Gr.at_alloc w o))
  have k2 : Kp (fun b => D.wv.ownBlock = some b) (w.alloc o).drew w3 := ⟨hg.os, hg.tape, hg.output, hg.size, fun k hk hn => hg.block k hk fun e => hn e.symm⟩
  have k3 : Kp (fun b => D.wv.ownBlock = some b) w w3 := k1.trans k2 fun _ hi => .inl hi
  have e1 : lrow (D.ws ++ [(n, l)]) = lrow D.ws ++ lc (n, l) := by unfold lrow; rw [List.map_append, List.flatten_append]; simp
  have e2 : (D.ws ++ [(n, l)]).length = D.ws.length + 1 := by simp
  refine ⟨?_, ?_, ?_, rfl⟩
  · exact (k3.mono fun i hi => .inr (.inr (.inr hi))).setCell (.inl (.inl rfl)) _
  · refine h.waits k3 (h.not_own h.o4) (h.not_own h.o5) (h.not_own h.o6) ?_ ?_
    · rw [e1, e2]; exact own
    · intro e he
      rcases List.mem_append.1 he with he | he
      · exact h.wsn e he
      · rw [List.mem_singleton.1 he]; exact ⟨hn, hl, hs⟩
  · intro b hb
    rcases hb with hb | hb | hb | hb
    · exact .inl (.inl hb)
    · exact .inl (.inr (.inl hb))
    · exact .inl (.inr (.inr (.inl hb)))
    · have hb' : gg = b := by simpa [Value.ownBlock] using hb
      subst hb'
      rcases hat with e | e
      · exact .inl (.inr (.inr (.inr e)))
      · exact .inr (by omega)
/-- the waits are thrown away -/
theorem Mv.drop {w : World} {D : Dk} (h : Dsk w D) : Mv w D (w.setCell ⟨D.d, 6, none⟩ (.slice none 0 0)) { D with wv := .slice none 0 0, ws := [] } := by
  refine ⟨(Kp.refl _ _).setCell (.inl (.inl rfl)) _, ?_, ?_, rfl⟩
  · exact h.waits (Kp.refl (fun _ => False) w) (fun h => h) (fun h => h) (fun h => h) (World.ownsRow_nil _ _ _ _) (by intro e he; cases he)
  · intro b hb
    rcases hb with hb | hb | hb | hb
    · exact .inl (.inl hb)
    · exact .inl (.inr (.inl hb))
    · exact .inl (.inr (.inr (.inl hb)))
    · simp [Value.ownBlock] at hb
end Go.Proofs.Ytkdphgcbecldbaa
