/- The disk as memory holds it. No program in sight. -/
import Derived.Test.YtkdphgcbecldbaaKitA
import Derived.Test.YtkdphgcbecldbaaMixI
import Derived.Deep.MidRow
import Derived.Deep.AppendLies
namespace Go.Proofs.Ytkdphgcbecldbaa
open Go.RowKit

/-- outside of S the world is as it was -/
structure Kp (S : Nat → Prop) (w w' : World) : Prop where
  os : w'.os = w.os
  tape : w'.tape = w.tape
  output : w'.output = w.output
  size : w.heap.size ≤ w'.heap.size
  block : ∀ k, k < w.heap.size → ¬ S k → w'.heap[k]? = w.heap[k]?
theorem Kp.refl (S : Nat → Prop) (w : World) : Kp S w w := ⟨rfl, rfl, rfl, Nat.le_refl _, fun _ _ _ => rfl⟩
theorem Kp.of_gr {S : Nat → Prop} {w w' : World} (h : Gr w w') : Kp S w w' := ⟨h.os, h.tape, h.output, h.size, fun k hk _ => h.block k hk⟩
theorem Kp.trans {S T : Nat → Prop} {a b c : World} (h : Kp S a b) (k : Kp T b c) (hT : ∀ i, T i → S i ∨ a.heap.size ≤ i) : Kp S a c :=
  ⟨k.os.trans h.os, k.tape.trans h.tape, k.output.trans h.output, Nat.le_trans h.size k.size, fun i hi hS =>
    (k.block i (Nat.lt_of_lt_of_le hi h.size) (fun ht => (hT i ht).elim hS (by omega))).trans (h.block i hi hS)⟩
theorem Kp.mono {S T : Nat → Prop} {a b : World} (h : Kp S a b) (hT : ∀ i, S i → T i) : Kp T a b :=
  ⟨h.os, h.tape, h.output, h.size, fun i hi hn => h.block i hi fun hs => hn (hT i hs)⟩
theorem Kp.below {S : Nat → Prop} {a b : World} {B : Nat} (h : Kp S a b) (hS : ∀ i, S i → B ≤ i) (hB : B ≤ a.heap.size) : Below B a b :=
  ⟨h.os, h.tape, h.output, h.size, fun i hi => h.block i (by omega) fun hs => by have := hS i hs; omega⟩
theorem Kp.setCell {S : Nat → Prop} {a w : World} (h : Kp S a w) {p : Addr} (hp : S p.block ∨ a.heap.size ≤ p.block) (u : Value) : Kp S a (w.setCell p u) :=
  ⟨h.os, h.tape, h.output, by rw [show (w.setCell p u).heap.size = w.heap.size by simp [World.setCell]]; exact h.size, fun k hk hn =>
    (Below.heap_setCell w p u k (fun e => by subst e; rcases hp with hp | hp; exact hn hp; omega)).trans (h.block k hk hn)⟩
theorem Kp.setCells {S : Nat → Prop} {a : World} (b : Nat) (hp : S b ∨ a.heap.size ≤ b) : ∀ (vs : List Value) (o : Nat) (w : World), Kp S a w → Kp S a (w.setCells b o vs)
  | [], _, _, h => h
  | v :: r, o, w, h => by
    rw [World.setCells]
    exact Kp.setCells b hp r (o + 1) _ (h.setCell hp v)
theorem Kp.drew {S : Nat → Prop} {a w : World} (h : Kp S a w) : Kp S a w.drew := ⟨h.os, h.tape, h.output, h.size, h.block⟩
theorem Kp.alloc {S : Nat → Prop} {a w : World} (h : Kp S a w) (o : Obj) : Kp S a (w.alloc o) :=
  h.trans (Kp.of_gr (S := S) (Gr.at_alloc w o)) (fun _ hs => .inl hs)
theorem Kp.gr {S : Nat → Prop} {a w w' : World} (h : Kp S a w) (g : Gr w w') : Kp S a w' := h.trans (Kp.of_gr (S := S) g) (fun _ hs => .inl hs)
theorem Kp.cell {S : Nat → Prop} {a w : World} (h : Kp S a w) {p : Addr} (hp : p.block < a.heap.size) (hn : ¬ S p.block) : w.cell? p = a.cell? p := World.cell?_of_block (h.block _ hp hn)
theorem Kp.frozen {S : Nat → Prop} {a w : World} (h : Kp S a w) {p : Addr} (hp : p.block < a.heap.size) (hn : ¬ S p.block) : w.frozen? p = a.frozen? p := World.frozen?_of_block (h.block _ hp hn)

/-- a write that waits, as cells -/
def lc (e : Nat × List Nat) : List Value := .int .i64 (e.1 : Int) :: bvs e.2
def lrow (ws : List (Nat × List Nat)) : List Value := (ws.map lc).flatten
/-- a disk: where its parts lie, and what they hold -/
structure Dk where
  d : Nat
  bb : Nat
  hb : Nat
  base : Nat
  k : Nat
  tu : Int
  cr : Int
  ar : Int
  dn : Bool
  bl : Nat → List Nat
  hu : Nat → Bool
  wv : Value
  ws : List (Nat × List Nat)
def Dk.row (D : Dk) : List Value := [.int .i64 D.tu, .int .i64 D.cr, .int .i64 D.ar, .bool D.dn, .slice (some ⟨D.bb, 0, none⟩) D.k D.k, .slice (some ⟨D.hb, 0, none⟩) D.k D.k, D.wv]
/-- the disk's blocks -/
def Dk.fp (D : Dk) (b : Nat) : Prop := b = D.d ∨ b = D.bb ∨ b = D.hb ∨ D.wv.ownBlock = some b
structure Dsk (w : World) (D : Dk) : Prop where
  kpos : 1 ≤ D.k
  kle : D.k ≤ 4096
  row : w.rangeAt D.d 0 D.row
  rowT : w.there D.d 0 7
  bls : ∀ i, i < D.k → w.rangeAt D.bb (i * 256) (bvs (D.bl i))
  blT : w.there D.bb 0 (D.k * 256)
  bln : ∀ i, i < D.k → (D.bl i).length = 256 ∧ Small (D.bl i)
  hus : ∀ i, i < D.k → w.cell? ⟨D.hb, i, none⟩ = some (.bool (D.hu i))
  huT : w.there D.hb 0 D.k
  own : w.ownsRow D.base 95 257 D.wv D.ws.length (lrow D.ws)
  wsn : ∀ e, e ∈ D.ws → e.1 < D.k ∧ e.2.length = 256 ∧ Small e.2
  o1 : D.d ≠ D.bb
  o2 : D.d ≠ D.hb
  o3 : D.bb ≠ D.hb
  o4 : D.d < D.base
  o5 : D.bb < D.base
  o6 : D.hb < D.base
  o7 : D.base ≤ w.heap.size
  arm : 0 ≤ D.ar ∧ D.ar ≤ 9223372036854775807

theorem Dsk.own_ge {w : World} {D : Dk} (h : Dsk w D) {b : Nat} (hb : D.wv.ownBlock = some b) : D.base ≤ b ∧ b < w.heap.size := by
  rcases h.own.2 with ⟨hv, _⟩ | ⟨g, cap, cur, hv, hg, hh, _⟩
  · rw [hv] at hb; simp [Value.ownBlock] at hb
  · rw [hv] at hb
    have e : g = b := by simpa [Value.ownBlock] using hb
    subst e
    refine ⟨hg, ?_⟩
    rcases Nat.lt_or_ge g w.heap.size with hlt | hge
    · exact hlt
    · rw [Array.getElem?_eq_none hge] at hh; cases hh
theorem Dsk.fp_lt {w : World} {D : Dk} (h : Dsk w D) {b : Nat} (hb : D.fp b) : b < w.heap.size := by
  have := h.o4; have := h.o5; have := h.o6; have := h.o7
  rcases hb with rfl | rfl | rfl | hb
  · omega
  · omega
  · omega
  · exact (h.own_ge hb).2
/-- what happens elsewhere -/
theorem Dsk.keep {S : Nat → Prop} {w w' : World} {D : Dk} (h : Dsk w D) (hk : Kp S w w') (hS : ∀ b, D.fp b → ¬ S b) : Dsk w' D := by
  have d4 := h.o4; have d5 := h.o5; have d6 := h.o6; have d7 := h.o7
  have cd : ∀ i, w'.cell? ⟨D.d, i, none⟩ = w.cell? ⟨D.d, i, none⟩ := fun i => hk.cell (p := ⟨D.d, i, none⟩) (by simp only; omega) (hS _ (.inl rfl))
  have fd : ∀ i, w'.frozen? ⟨D.d, i, none⟩ = w.frozen? ⟨D.d, i, none⟩ := fun i => hk.frozen (p := ⟨D.d, i, none⟩) (by simp only; omega) (hS _ (.inl rfl))
  have cb : ∀ i, w'.cell? ⟨D.bb, i, none⟩ = w.cell? ⟨D.bb, i, none⟩ := fun i => hk.cell (p := ⟨D.bb, i, none⟩) (by simp only; omega) (hS _ (.inr (.inl rfl)))
  have fb : ∀ i, w'.frozen? ⟨D.bb, i, none⟩ = w.frozen? ⟨D.bb, i, none⟩ := fun i => hk.frozen (p := ⟨D.bb, i, none⟩) (by simp only; omega) (hS _ (.inr (.inl rfl)))
  have ch : ∀ i, w'.cell? ⟨D.hb, i, none⟩ = w.cell? ⟨D.hb, i, none⟩ := fun i => hk.cell (p := ⟨D.hb, i, none⟩) (by simp only; omega) (hS _ (.inr (.inr (.inl rfl))))
  have fh : ∀ i, w'.frozen? ⟨D.hb, i, none⟩ = w.frozen? ⟨D.hb, i, none⟩ := fun i => hk.frozen (p := ⟨D.hb, i, none⟩) (by simp only; omega) (hS _ (.inr (.inr (.inl rfl))))
  refine ⟨h.kpos, h.kle, fun j v hv => (cd _).trans (h.row j v hv), fun j hj => ?_, fun i hi j v hv => (cb _).trans (h.bls i hi j v hv), fun j hj => ?_, h.bln, fun i hi => (ch _).trans (h.hus i hi), fun j hj => ?_, ?_, h.wsn, h.o1, h.o2, h.o3, d4, d5, d6, Nat.le_trans d7 hk.size, h.arm⟩
  · rw [cd, fd]; exact h.rowT j hj
  · rw [cb, fb]; exact h.blT j hj
  · rw [ch, fh]; exact h.huT j hj
  · obtain ⟨hl, h1 | ⟨g, cap, cur, hv, hg, hh, hr⟩⟩ := h.own
    · exact ⟨hl, .inl h1⟩
    · have hlt := (h.own_ge (b := g) (by rw [hv]; rfl)).2
      exact ⟨hl, .inr ⟨g, cap, cur, hv, hg, (hk.block g hlt (hS _ (.inr (.inr (.inr (by rw [hv]; rfl)))))).trans hh, hr⟩⟩
theorem Dsk.gr {w w' : World} {D : Dk} (h : Dsk w D) (hg : Gr w w') : Dsk w' D := h.keep (Kp.of_gr (S := fun _ => False) hg) (fun _ _ hf => hf)

/-- one of the disk's own four counts is turned -/
theorem Dsk.put {w : World} {D D' : Dk} (h : Dsk w D) (j : Nat) (v : Value) (hj : j < 4) (hr : D'.row = D.row.set j v) (ha : 0 ≤ D'.ar ∧ D'.ar ≤ 9223372036854775807)
    (e : (D'.d, D'.bb, D'.hb, D'.base, D'.k, D'.bl, D'.hu, D'.wv, D'.ws) = (D.d, D.bb, D.hb, D.base, D.k, D.bl, D.hu, D.wv, D.ws)) : Dsk (w.setCell ⟨D.d, j, none⟩ v) D' := by
  simp only [Prod.mk.injEq] at e
  obtain ⟨e1, e2, e3, e4, e5, e6, e7, e8, e9⟩ := e
  have d4 := h.o4; have d5 := h.o5; have d6 := h.o6; have d7 := h.o7
  have co : ∀ b i, b ≠ D.d → (w.setCell ⟨D.d, j, none⟩ v).cell? ⟨b, i, none⟩ = w.cell? ⟨b, i, none⟩ := fun b i hb => World.cell?_setCell_other _ _ _ _ (by intro e; injection e with e; exact hb e.symm)
  have hcj : ∃ u, w.cell? ⟨D.d, j, none⟩ = some u := by
    have := (h.rowT j (by omega)).1
    rw [Nat.zero_add] at this
    exact Option.isSome_iff_exists.1 this
  obtain ⟨u, hu⟩ := hcj
  refine ⟨e5 ▸ h.kpos, e5 ▸ h.kle, ?_, ?_, ?_, ?_, ?_, ?_, ?_, ?_, ?_, ?_, ?_, ?_, ?_, ?_, ?_, ?_, ha⟩
  · rw [e1, hr]
    intro i x hx
    rw [Nat.zero_add]
    by_cases hij : i = j
    · subst hij
      have hlt : i < D.row.length := by show i < 7; omega
      rw [List.getElem?_set_self hlt] at hx
      injection hx with hx
      subst hx
      rw [World.cell?_setCell_same _ _ _ hu]
    · rw [List.getElem?_set_ne (Ne.symm hij)] at hx
      rw [World.cell?_setCell_other _ _ _ _ (by intro e; injection e with _ e; exact hij e.symm)]
      have := h.row i x hx
      rwa [Nat.zero_add] at this
  · rw [e1]
    intro i hi
    have := World.there_setCells h.rowT D.d j [v] i hi
    exact this
  · rw [e2, e5, e6]
    intro i hi
    intro j' x hx
    rw [co _ _ (Ne.symm h.o1)]
    exact h.bls i hi j' x hx
  · rw [e2, e5]
    intro i hi
    have := World.there_setCells h.blT D.d j [v] i hi
    exact this
  · rw [e5, e6]; exact h.bln
  · rw [e3, e5, e7]
    intro i hi
    rw [co _ _ (Ne.symm h.o2)]
    exact h.hus i hi
  · rw [e3, e5]
    intro i hi
    have := World.there_setCells h.huT D.d j [v] i hi
    exact this
  · rw [e4, e8, e9]
    obtain ⟨hl, h1 | ⟨g, cap, cur, hv, hg, hh, hr⟩⟩ := h.own
    · exact ⟨hl, .inl h1⟩
    · exact ⟨hl, .inr ⟨g, cap, cur, hv, hg, (Below.heap_setCell w _ v g (by simp only; omega)).trans hh, hr⟩⟩
  · rw [e5, e9]; exact h.wsn
  · rw [e1, e2]; exact h.o1
  · rw [e1, e3]; exact h.o2
  · rw [e2, e3]; exact h.o3
  · rw [e1, e4]; exact d4
  · rw [e2, e4]; exact d5
  · rw [e3, e4]; exact d6
  · rw [e4]; simpa [World.setCell] using d7
end Go.Proofs.Ytkdphgcbecldbaa
