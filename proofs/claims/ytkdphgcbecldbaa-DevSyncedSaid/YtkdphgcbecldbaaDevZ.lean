/- The disk: what is seen of a block (59). -/
import Derived.Test.YtkdphgcbecldbaaDevX
namespace Go.Proofs.Ytkdphgcbecldbaa
open Go.RowKit Go.Shelf
attribute [local go_sem] Oper.semAt_some
attribute [local go_sem ↓] wp_ld93 wp_st93 wpi_ld95 wpi_st95 wpi_ld93 wpi_st93
/-- what is seen of a block -/
def see (ws : List (Nat × List Nat)) (n : Nat) (b : List Nat) : List Nat := ws.foldl (fun b e => if e.1 = n then e.2 else b) b
theorem see_none (ws : List (Nat × List Nat)) (n : Nat) (b : List Nat) (h : ∀ e, e ∈ ws → e.1 ≠ n) : see ws n b = b := by
  induction ws generalizing b with
  | nil => rfl
  | cons e r ih =>
    show see r n (if e.1 = n then e.2 else b) = b
    rw [if_neg (h e (List.mem_cons_self ..))]
    exact ih b fun e he => h e (List.mem_cons_of_mem _ he)
theorem see_append (a c : List (Nat × List Nat)) (n : Nat) (b : List Nat) : see (a ++ c) n b = see c n (see a n b) := List.foldl_append ..
theorem see_last (ws p r : List (Nat × List Nat)) (x : Nat × List Nat) (n : Nat) (b : List Nat) (h : p ++ [x] ++ r = ws.reverse) (hp : ∀ e, e ∈ p → e.1 ≠ n) (hx : x.1 = n) : see ws n b = x.2 := by
  have e : ws = r.reverse ++ ([x] ++ p.reverse) := by rw [← List.reverse_reverse ws, ← h]; simp
  rw [e, see_append, see_append]
  rw [see_none _ _ _ (fun e he => hp e (List.mem_reverse.1 he))]
  exact if_pos hx
theorem KeepsOthers.setCells : ∀ (vs : List Value) (W : World) (b o : Nat), KeepsOthers W (W.setCells b o vs)
  | [], W, _, _ => KeepsOthers.refl W
  | v :: r, W, b, o => by
    rw [World.setCells]
    exact (KeepsOthers.setCell W ⟨b, o, none⟩ v).trans (KeepsOthers.setCells r _ b (o + 1))
theorem Below.setCells {B : Nat} {a : World} (b : Nat) (hp : B ≤ b) : ∀ (vs : List Value) (o : Nat) (w : World), Below B a w → Below B a (w.setCells b o vs)
  | [], _, _, h => h
  | v :: r, o, w, h => by
    rw [World.setCells]
    exact Below.setCells b hp r (o + 1) _ (h.setCell (p := ⟨b, o, none⟩) hp v)
/-- a block of cells lies on -/
theorem blk_own {β : Type} (b : Nat) (t : TypeId) (f : β → Array Value) : Own (fun s W => W.heap[b]? = some (.cells (f s) t (0, 0))) := fun s X _ _ hs hg hr =>
  (hg.block b (Array.getElem?_eq_some_iff.1 hs).1 (fun e => by obtain ⟨o, ho, hc⟩ := hr b e.symm; rw [hs] at ho; cases ho; cases hc)).trans hs
theorem range_own {β : Type} (b o : Nat) (f : β → List Value) : Own (fun s W => World.rangeAt W b o (f s)) := fun _ _ _ _ hs hg hr j v hv => cell_kept (hs j v hv) hg hr
set_option maxRecDepth 100000 in
set_option maxHeartbeats 4000000 in
theorem seen_ok (D : Dk) (n : Nat) (w : World) (h : Dsk w D) (hn : n < D.k) (hws : D.ws.length ≤ 1000000) :
    Calls Try.prog 59 #[.pointer (some ⟨D.d, 0, none⟩), .int .i64 n] w fun r w' => r = .returned (.agg (bvs (see D.ws n (D.bl n))).toArray) ∧ Gr w w' := by
  refine (callsIn_wide (n := 3)).1 ?_
  refine callsIn_of_wp_marks Try.func59 rfl trivial ?_ rfl
  simp only [Try.ntmps59, List.size_toArray, List.length_cons, List.length_nil, Nat.reduceAdd, Nat.reduceSub, Array.replicate_succ, Array.replicate_zero, List.push_toArray, List.append_toArray, List.nil_append, List.cons_append]
  have h6 := h.c 6 rfl
  obtain ⟨A, cap, hwv⟩ := h.wvs
  rw [hwv] at h6
  have hg2 : Gr w ((w.alloc (Obj.cells #[Value.int IntKind.i64 ↑n] 3)).alloc (Obj.cells Try.zeroCells93 93)) := ((Below.refl _ w).alloc (Nat.le_refl _) _).alloc (by simp) _
  have h6a := (h.gr hg2).c 6 rfl
  rw [hwv] at h6a
  have hg3 : Gr w (((w.alloc (Obj.cells #[Value.int IntKind.i64 ↑n] 3)).alloc (Obj.cells Try.zeroCells93 93)).alloc (.cells #[.slice A D.ws.length cap] 83)) := Gr.alloc hg2 _
  have HG3 := Lib.hid hg3
  clear hg2 hg3
  have HH := Lib.hid h
  have HWV := Lib.hid hwv
  have HN := Lib.hid hn
  have HWS := Lib.hid hws
  clear h hwv hn hws
  gi_wp2_with (refine ⟨trivial, ?_⟩; gi_at_call 79; refine (callsIn_wide.2 (back_in _ _ _ _)).mono ?_; rintro e w' ⟨rfl, rfl⟩)
  obtain ⟨W0, hW0⟩ : ∃ W0, ((w.alloc (Obj.cells #[Value.int IntKind.i64 ↑n] 3)).alloc (Obj.cells Try.zeroCells93 93)).alloc (.cells #[.slice A D.ws.length cap] 83) = W0 := ⟨_, rfl⟩
  have bN : Boxed W0 w.heap.size 3 (.int .i64 n) := by rw [← hW0]; exact ((Boxed.new w 3 _).alloc _).alloc _
  have hR : W0.heap[w.heap.size + 1]? = some (.cells Try.zeroCells93 93 (0, 0)) := by
    rw [← hW0, Below.heap_alloc _ _ _ (by simp)]
    have := World.alloc_heap_new (w.alloc (Obj.cells #[Value.int IntKind.i64 ↑n] 3)) (.cells Try.zeroCells93 93)
    rwa [World.size_alloc] at this
  have bB : Boxed W0 (w.heap.size + 1 + 1) 83 (.slice A D.ws.length cap) := by
    rw [← hW0]
    have := Boxed.new ((w.alloc (Obj.cells #[Value.int IntKind.i64 ↑n] 3)).alloc (Obj.cells Try.zeroCells93 93)) 83 (.slice A D.ws.length cap)
    simp only [World.size_alloc] at this
    exact this
  have hsz : W0.heap.size = w.heap.size + 3 := by rw [← hW0]; simp
  have hG0 : Gr w W0 := by rw [← hW0]; exact HG3.out
  rw [hW0]
  clear hW0 HG3 h6 h6a
  have hD0 := HH.out.gr hG0
  have hcB : W0.cell? ⟨w.heap.size + 1 + 1, 0, none⟩ = some D.wv := by rw [HWV.out]; exact bB.cell
  refine wpIn_rangeFunc_ownH rfl (by omega) (gf := 85) (lb := #[.pointer (some ⟨w.heap.size + 1 + 1, 0, none⟩)]) rfl trivial (enters_of Try.func85 (by kernel_rfl) rfl) (back_stops (3 - 1) (by omega) (w.heap.size + 1 + 1) D W0 hD0 (by omega) hcB HWS.out) belowK_t (belowK_b (Nat.le_refl _)) (Below.refl _ _) (fun _ => rfl)
    (fun pre W => (∀ x, x ∈ pre → (evE x).1 ≠ n) ∧ Below W0.heap.size W0 W)
    (fun c pre W => (c = .ret ∧ ∃ p x, pre = p ++ [x] ∧ (∀ y, y ∈ p → (evE y).1 ≠ n) ∧ (evE x).1 = n ∧ W.rangeAt (w.heap.size + 1) 0 (bvs (evE x).2)) ∧ Below w.heap.size w W)
    (OwnFrom.and (ownFrom_pure _ _) (ownFrom_below (Nat.le_refl _) (Nat.le_refl _)))
    (fun c => OwnFrom.and (fun pre A B row hs hg hr => by obtain ⟨h1, p, x, e, hp, hx, hrg⟩ := hs; exact ⟨h1, p, x, e, hp, hx, fun j v hv => cell_kept (hrg j v hv) hg (fun r e => (hr r e).2)⟩) (ownFrom_below (Nat.le_refl _) (by omega)))
    ⟨by simp, Below.refl _ _⟩
    (fun x a' W => ∃ Bx, W0.heap.size ≤ Bx ∧ W.heap[Bx]? = some (.cells (lc (evE x)).toArray 95 (0, 0)) ∧ a' = { tmps := #[Value.pointer (some { block := D.d, off := 0 }), Value.int IntKind.i64 ↑n, undef, Value.pointer (some { block := w.heap.size, off := 0 }), Value.pointer (some { block := w.heap.size + 1, off := 0 }), undef, Value.pointer (some { block := Bx, off := 0 }), Value.pointer (some { block := D.d, off := 0 }), Value.pointer (some { block := D.d, off := 0 }), Value.pointer (some { block := D.d, off := 6 }), Value.slice A D.ws.length cap, Value.func (Fn.func 85) #[] #[Value.pointer (some { block := w.heap.size + 1 + 1, off := 0 })], .int .i64 x.1.1, .agg (lc (evE x)).toArray, undef, undef, undef, undef, undef, undef, undef, undef, undef, undef, undef, undef, undef], defers := [] })
    (fun x a' _ X Y row hs hg hr => by obtain ⟨Bx, h1, h2, h3⟩ := hs; exact ⟨Bx, h1, blk_own Bx 95 (fun (_ : Unit) => (lc (evE x)).toArray) () X Y row h2 hg (fun r e => (hr r e).2), h3⟩)
    ?assign ?body ?done ?stop
  case assign =>
    rintro l pre x W K ⟨hp, hB⟩ hK
    have hst := stv95_new W (lc (evE x)).toArray (by rw [List.size_toArray]; exact lc_len x.2) (all_oneCell_toArray lc_one)
    have hnew := heap_alloc_new W (.cells (lc (evE x)).toArray 95)
    rw [show evs x = #[.int .i64 (x.1.1 : Int), .agg (lc (evE x)).toArray] from rfl]
    have HK := Lib.hid hK
    have HNEW := Lib.hid hnew
    clear hK hnew
    generalize hX : (lc (evE x)).toArray = X at *
    have HX := Lib.hid hX
    clear hX
    gi_wp2
    exact HK.out _ _ ((KeepsOthers.alloc _ _).from _) ((Below.refl _ W).alloc hB.size _) ⟨hp, hB.alloc hB.size _⟩ ⟨W.heap.size, hB.size, HNEW.out, rfl⟩
  case body =>
    rintro l pre x a' W hl ⟨r, hr⟩ ⟨hp, hB⟩ ⟨Bx, hBx, hX, rfl⟩ hlt
    have hlx : (evE x).2.length = 256 := x.2
    have hcN : W.cell? ⟨w.heap.size, 0, none⟩ = some (.int .i64 n) := (hB.cell (p := ⟨w.heap.size, 0, none⟩) (by simp only; omega)).trans bN.cell
    have hcX : W.cell? ⟨Bx, 0, none⟩ = some (.int .i64 ((evE x).1 : Int)) := (cell_of_row _ _ _ _ _ _ hX).trans rfl
    have hlen : (bvs (evE x).2).length = 256 := by rw [bvs_len]; exact hlx
    have hrX : W.rangeAt Bx 1 (bvs (evE x).2) := fun j v hv => by
      rw [cell_of_row _ _ _ _ _ _ hX, List.getElem?_toArray, Nat.add_comm]
      unfold lc
      rw [List.getElem?_cons_succ]
      exact hv
    have hld := ldv93 hrX hlen
    have hRW : W.heap[w.heap.size + 1]? = some (.cells Try.zeroCells93 93 (0, 0)) := (hB.block _ (by omega)).trans hR
    have hthere : W.there (w.heap.size + 1) 0 256 := fun j hj => by
      rw [cell_of_row _ _ _ _ _ _ hRW, z93]
      refine ⟨?_, by simp [World.frozen?, hRW]⟩
      unfold Zb
      rw [Array.getElem?_replicate, if_pos (by omega)]; rfl
    have hst := stv93 (cells := (bvs (evE x).2).toArray) hthere (by rw [List.size_toArray]; exact hlen) (all_oneCell_toArray (bvs_one _))
    have hsame := World.rangeAt_setCells_same W (w.heap.size + 1) 0 (bvs (evE x).2) (by rw [hlen]; exact hthere)
    have HSAME := Lib.hid hsame
    have HB := Lib.hid hB
    have HP := Lib.hid hp
    have HKO := Lib.hid (KeepsOthers.setCells (bvs (evE x).2) W (w.heap.size + 1) 0)
    have HBS := Lib.hid (Below.setCells (B := w.heap.size) (a := w) (w.heap.size + 1) (by omega) (bvs (evE x).2) 0 W (hG0.trans (hB.mono (by omega))))
    clear hsame hB hp hthere hRW hrX hX hlx hlen
    rw [List.toList_toArray] at hst
    generalize W.setCells (w.heap.size + 1) 0 (bvs (evE x).2) = W2 at *
    generalize (bvs (evE x).2).toArray = C at *
    by_cases hx : (evE x).1 = n
    · have hxb : (((evE x).1 : Int) == (n : Int)) = true := by simp [hx]
      have HX := Lib.hid hx
      clear hx
      gi_wp2
      exact ⟨HKO.out.from _, ⟨rfl, pre, x, rfl, HP.out, HX.out, HSAME.out⟩, HBS.out⟩
    · have hxb : (((evE x).1 : Int) == (n : Int)) = false := by simp; omega
      have HX := Lib.hid hx
      clear hx
      gi_wp2
      refine ⟨KeepsFrom.refl _ _, Below.refl _ _, fun y hy => ?_, HB.out⟩
      rcases List.mem_append.1 hy with hy | hy
      · exact HP.out y hy
      · rw [List.mem_singleton.1 hy]; exact HX.out
  case done =>
    rintro E ys W hE hys ⟨hp, hB⟩ hK
    have hGW : Gr w W := hG0.trans (hB.mono (by omega))
    have hD := HH.out.gr hGW
    have h4 := hD.c 4 rfl
    have hcN : W.cell? ⟨w.heap.size, 0, none⟩ = some (.int .i64 n) := (hB.cell (p := ⟨w.heap.size, 0, none⟩) (by simp only; omega)).trans bN.cell
    have hlen : (bvs (D.bl n)).length = 256 := by rw [bvs_len]; exact (hD.bln n HN.out).1
    have hld := ldv93 ((World.rangeAt_drew _ _ _ _).2 (hD.bls n HN.out)) hlen
    have hRW : W.heap[w.heap.size + 1]? = some (.cells Try.zeroCells93 93 (0, 0)) := (hB.block _ (by omega)).trans hR
    have hthere : W.drew.there (w.heap.size + 1) 0 256 := fun j hj => by
      show (W.cell? _).isSome = true ∧ W.frozen? _ = false
      rw [cell_of_row _ _ _ _ _ _ hRW, z93]
      refine ⟨?_, by simp [World.frozen?, hRW]⟩
      unfold Zb
      rw [Array.getElem?_replicate, if_pos (by omega)]; rfl
    have hst := stv93 (cells := (bvs (D.bl n)).toArray) hthere (by rw [List.size_toArray]; exact hlen) (all_oneCell_toArray (bvs_one _))
    have hsame := World.rangeAt_setCells_same W.drew (w.heap.size + 1) 0 (bvs (D.bl n)) (by rw [hlen]; exact hthere)
    have hsee : see D.ws n (D.bl n) = D.bl n := see_none _ _ _ fun e he => by
      rw [← List.mem_reverse, ← hys] at he
      obtain ⟨x, hx, rfl⟩ := List.mem_map.1 he
      exact hp x hx
    have hK2 := (KeepsOthers.setCells (bvs (D.bl n)) W.drew (w.heap.size + 1) 0).same E _ hK rfl
    have hB2 := (Below.setCells (B := w.heap.size) (a := w) (w.heap.size + 1) (by omega) (bvs (D.bl n)) 0 W.drew (Below.drew hGW))
    have b1 : (0 : Int) ≤ (n : Int) := by omega
    have b2 : (n : Int) < (D.k : Int) := by have := HN.out; omega
    rw [List.toList_toArray] at hst
    have HSEE := Lib.hid hsee
    have HK := Lib.hid hK2
    have HSAME := Lib.hid hsame
    have HB := Lib.hid hB2
    have HL := Lib.hid hlen
    clear hK hB hp hD hK2 hsame hB2 hsee hRW hthere hlen hys hGW
    generalize W.drew.setCells (w.heap.size + 1) 0 (bvs (D.bl n)) = W2 at *
    gi_wp2
    refine wpIn_wide.2 ?_
    generalize hC : (bvs (D.bl n)).toArray = C at *
    have HC := Lib.hid hC
    clear hC
    go_region
    all_goals (
      gi_wp2
      rw [HSEE.out]
      refine ⟨by simp, .inl ⟨_, _, rfl, run_takeDeferred HK.out, ?_⟩⟩
      have hr2 : (W2.putObj E (.deferred none)).rangeAt (w.heap.size + 1) 0 (bvs (D.bl n)) := fun j v hv => cell_kept (HSAME.out j v hv) (grownBy_putObj' _ E (.deferred none)) (fun r e => by cases e; exact ⟨_, HK.out, rfl⟩)
      refine ⟨_, results_cell (b := w.heap.size + 1) rfl rfl (run_loadVar_mid _ _ _ 93 _ _ hr2 Try.underlying93 rfl (by rw [HL.out]; exact sz93)), rfl, HB.out.trans (belowK_b (w := w) (Nat.le_refl _) W2 E _ _ (by omega) HK.out rfl rfl)⟩)
  case stop =>
    rintro E c pre W hE hpre ⟨⟨rfl, p, x, rfl, hp, hx, hr⟩, hB⟩ hK
    gi_wp2
    have hsee : see D.ws n (D.bl n) = (evE x).2 := by
      obtain ⟨t, ht⟩ := hpre
      exact see_last _ (p.map evE) t (evE x) n _ (by rw [← ht]; simp) (fun e he => by obtain ⟨y, hy, rfl⟩ := List.mem_map.1 he; exact hp y hy) hx
    rw [hsee]
    have hlen : (bvs (evE x).2).length = 256 := by rw [bvs_len]; exact x.2
    refine ⟨by simp, .inl ⟨_, _, rfl, run_takeDeferred hK, ?_⟩⟩
    have hr2 : (W.putObj E (.deferred none)).rangeAt (w.heap.size + 1) 0 (bvs (evE x).2) := fun j v hv => cell_kept (hr j v hv) (grownBy_putObj' _ E (.deferred none)) (fun r e => by cases e; exact ⟨_, hK, rfl⟩)
    refine ⟨_, results_cell (b := w.heap.size + 1) rfl rfl (run_loadVar_mid _ _ _ 93 _ _ hr2 Try.underlying93 rfl (by rw [hlen]; exact sz93)), rfl, hB.trans (belowK_b (w := w) (Nat.le_refl _) W E _ _ (by omega) hK rfl rfl)⟩
end Go.Proofs.Ytkdphgcbecldbaa
