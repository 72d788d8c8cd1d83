/- Texts of the proof, one behind the other: DevX, DevZ, DevAA, DevG. -/
import Derived.Test.YtkdphgcbecldbaaJj
import Derived.RangeFuncNested
import Derived.RangeFuncBound
import Derived.RangeFuncCalls
import Derived.RangeFuncLeaves
import Derived.Shelf.Abstract
import Derived.WalkKit
import Derived.OwnWalkIn
import Derived.TacticsInMore
import Derived.LoopNIn
import Derived.LoopIn
import Derived.Test.YtkdphgcbecldbaaJg
/- The disk: the waits backward (79, 85), and what is seen of a block (59). -/
namespace Go.Proofs.Ytkdphgcbecldbaa
open Go.RowKit Go.Shelf
attribute [local go_sem] Oper.semAt_some
theorem wpi_ld95 {F : Fence} {n : Nat} {dst : Option Tmp} {x : Operand} {ty : TypeId} {pos : String} {af} {gd} {a : Act} {w : World} {K Q} :
    Oper.wpIn F n Try.prog ⟨dst, .load 95 x, ty, pos, af, gd⟩ a w K Q = Oper.uponIn F n Try.prog ⟨dst, .load 95 x, ty, pos, af, gd⟩ a K Q ((ldv 95 (a.eval x) w).andThen fun v w' => .ok (.value v) w') := by
  unfold Oper.wpIn ldv
  rw [Oper.semAt_eq _ _ _ (fun c h => by cases h)]
  simp only [execOp, Sem.run_bind, Oper.about]
  simp
theorem wpi_ld93 {F : Fence} {n : Nat} {dst : Option Tmp} {x : Operand} {ty : TypeId} {pos : String} {af} {gd} {a : Act} {w : World} {K Q} :
    Oper.wpIn F n Try.prog ⟨dst, .load 93 x, ty, pos, af, gd⟩ a w K Q = Oper.uponIn F n Try.prog ⟨dst, .load 93 x, ty, pos, af, gd⟩ a K Q ((ldv 93 (a.eval x) w).andThen fun v w' => .ok (.value v) w') := by
  unfold Oper.wpIn ldv
  rw [Oper.semAt_eq _ _ _ (fun c h => by cases h)]
  simp only [execOp, Sem.run_bind, Oper.about]
  simp
theorem wpi_st95 {F : Fence} {n : Nat} {dst : Option Tmp} {x y : Operand} {ty : TypeId} {pos : String} {af} {gd} {a : Act} {w : World} {K Q} :
    Oper.wpIn F n Try.prog ⟨dst, .store 95 x y, ty, pos, af, gd⟩ a w K Q = Oper.uponIn F n Try.prog ⟨dst, .store 95 x y, ty, pos, af, gd⟩ a K Q ((stv 95 (a.eval x) (a.eval y) w).andThen fun _ w' => .ok .skip w') := by
  unfold Oper.wpIn stv
  rw [Oper.semAt_eq _ _ _ (fun c h => by cases h)]
  simp only [execOp, Sem.run_bind, Oper.about]
  simp
theorem wpi_st93 {F : Fence} {n : Nat} {dst : Option Tmp} {x y : Operand} {ty : TypeId} {pos : String} {af} {gd} {a : Act} {w : World} {K Q} :
    Oper.wpIn F n Try.prog ⟨dst, .store 93 x y, ty, pos, af, gd⟩ a w K Q = Oper.uponIn F n Try.prog ⟨dst, .store 93 x y, ty, pos, af, gd⟩ a K Q ((stv 93 (a.eval x) (a.eval y) w).andThen fun _ w' => .ok .skip w') := by
  unfold Oper.wpIn stv
  rw [Oper.semAt_eq _ _ _ (fun c h => by cases h)]
  simp only [execOp, Sem.run_bind, Oper.about]
  simp
attribute [local go_sem ↓] wpi_ld95 wpi_st95 wpi_ld93 wpi_st93

/-- what the iterator hands out -/
abbrev Ev := { x : Nat × (Nat × List Nat) // x.2.2.length = 256 }
def evE (x : Ev) : Nat × List Nat := x.1.2
def evs (x : Ev) : Array Value := #[.int .i64 (x.1.1 : Int), .agg (lc (evE x)).toArray]
set_option maxRecDepth 100000 in
set_option maxHeartbeats 2000000 in
theorem back1 (n : Nat) (hn : 1 ≤ n) (l Bs n₀ g cap : Nat) (ws : List (Nat × List Nat)) (hreach : ws.length ≤ 1000000) (hg : g < n₀) (hBn : Bs < n₀) (hwl : ∀ e, e ∈ ws → e.2.length = 256) (J Jx : List Ev → World → Prop)
    (hY : ∀ pre x W, J pre W → pre.length < ws.length → YieldAt Fence.wide (n - 1) Try.prog l (evs x) W fun e W' =>
      (e = .returned (.bool true) ∧ J (pre ++ [x]) W' ∧ Below n₀ W W') ∨ (e = .returned (.bool false) ∧ Jx (pre ++ [x]) W'))
    (W : World) (hBs : W.cell? ⟨Bs, 0, none⟩ = some (.slice (some ⟨g, 0, none⟩) ws.length cap)) (hw : ∀ i (hi : i < ws.length), W.rangeAt g (i * 257) (lc ws[i])) (h0 : J [] W) :
    CallsIn Fence.wide n Try.prog 85 #[.func (.yield l) #[] #[], .pointer (some ⟨Bs, 0, none⟩)] W fun e W' => (∃ v, e = .returned v) ∧
      ((∃ ys, ys.map evE = ws.reverse ∧ J ys W') ∨ (∃ pre, pre.map evE <+: ws.reverse ∧ Jx pre W')) := by
  refine callsIn_of_wp Try.func85 rfl trivial ?_ rfl
  simp only [Try.ntmps85, List.size_toArray, List.length_cons, List.length_nil, Nat.reduceAdd, Nat.reduceSub, Array.replicate_succ, Array.replicate_zero, List.push_toArray, List.append_toArray, List.nil_append, List.cons_append]
  gi_wp2
  gi_loopw [3] (fun i wr => ∃ j : Nat, j ≤ ws.length ∧ i = .int .i64 ((j : Int) - 1) ∧ (∃ pre : List Ev, pre.map evE = ws.reverse.take (ws.length - j) ∧ J pre wr) ∧ Below n₀ W wr)
    (fun i _ => (intOf i + 1).toNat)
  case atStart => exact ⟨ws.length, Nat.le_refl _, by go_num, ⟨[], by simp, h0⟩, Below.refl _ _⟩
  case round =>
    obtain ⟨j, hj, rfl, ⟨pre, hpre, hJs⟩, hnx⟩ := hrel
    have hc1 : wr.cell? ⟨Bs, 0, none⟩ = some (.slice (some ⟨g, 0, none⟩) ws.length cap) := (hnx.cell (p := ⟨Bs, 0, none⟩) hBn).trans hBs
    cases j with
    | zero =>
      gi_wp2
      go_end0
      exact ⟨⟨_, rfl⟩, .inl ⟨pre, by rw [hpre, Nat.sub_zero, List.take_of_length_le (by simp)], hJs⟩⟩
    | succ j =>
      have hjl : j < ws.length := hj
      have e1 : ((j + 1 : Nat) : Int) - 1 = (j : Int) := by omega
      rw [e1]
      have hl5 : (ws[j]).2.length = 256 := hwl _ (List.getElem_mem hjl)
      have hx : wr.rangeAt g (j * 257) (lc ws[j]) := fun i v hv => (hnx.cell (p := ⟨g, j * 257 + i, none⟩) hg).trans (hw j hjl i v hv)
      have hld := ldv95 hx (lc_len hl5)
      have hlen : pre.length < ws.length := by
        have := congrArg List.length hpre
        simp at this
        omega
      obtain ⟨fn, tmps, assign, body, hy, hR⟩ := hY pre ⟨(j, ws[j]), hl5⟩ wr hJs hlen
      dsimp only [evs, evE] at hy
      have hsn : (pre ++ [(⟨(j, ws[j]), hl5⟩ : Ev)]).map evE = ws.reverse.take (ws.length - j) := by
        rw [List.map_append, hpre, show ws.length - j = (ws.length - (j + 1)) + 1 by omega, List.take_succ_eq_append_getElem (by simp; omega)]
        congr 1
        simp [evE]
        congr 1
        omega
      have HSN := Lib.hid hsn
      clear hsn hx hwl hw hpre
      generalize (lc ws[j]).toArray = X at *
      have b1 : (0 : Int) ≤ (j : Int) := by omega
      have b2 : (j : Int) < (ws.length : Int) := by omega
      gi_wp2
      refine hR.mono ?_
      rintro e W3 (⟨rfl, hJ3, hk3⟩ | ⟨rfl, hJx3⟩)
      · gi_wp2
        go_roundw
        case rel => exact ⟨j, by omega, by go_num, ⟨_, HSN.out, hJ3⟩, hnx.trans hk3⟩
        case measure => simp [intOf]
      · gi_wp2
        refine bodyPost_ret (results_none rfl _ _ _) rfl ?_
        exact ⟨⟨_, rfl⟩, .inr ⟨_, by rw [HSN.out]; exact List.take_prefix _ _, hJx3⟩⟩
set_option maxRecDepth 100000 in
set_option maxHeartbeats 2000000 in
theorem back0 (n l Bs cap : Nat) (A : Option Addr) (J : List Ev → World → Prop) (W : World) (hBs : W.cell? ⟨Bs, 0, none⟩ = some (.slice A 0 cap)) (h0 : J [] W) :
    CallsIn Fence.wide n Try.prog 85 #[.func (.yield l) #[] #[], .pointer (some ⟨Bs, 0, none⟩)] W fun e W' => (∃ v, e = .returned v) ∧ J [] W' := by
  refine callsIn_of_wp Try.func85 rfl trivial ?_ rfl
  simp only [Try.ntmps85, List.size_toArray, List.length_cons, List.length_nil, Nat.reduceAdd, Nat.reduceSub, Array.replicate_succ, Array.replicate_zero, List.push_toArray, List.append_toArray, List.nil_append, List.cons_append]
  gi_wp2
  gi_loopw [3] (fun i wr => i = .int .i64 (-1) ∧ J [] wr) (fun _ _ => 0)
  case atStart => exact ⟨rfl, h0⟩
  case round =>
    obtain ⟨rfl, hJs⟩ := hrel
    gi_wp2
    go_end0
    exact ⟨⟨_, rfl⟩, hJs⟩
set_option maxHeartbeats 1000000 in
theorem back_in (A : Option Addr) (len cap : Nat) (w : World) :
    Calls Try.prog 79 #[.slice A len cap] w fun r w' => r = .returned (.func (.func 85) #[] #[.pointer (some ⟨w.heap.size, 0, none⟩)]) ∧ w' = w.alloc (.cells #[.slice A len cap] 83) := by
  go_enter Try.func79, Try.ntmps79
  go_wp2_with fail
  go_ret
  exact ⟨rfl, rfl⟩
theorem back_stops (n : Nat) (hn : 1 ≤ n) (Bs : Nat) (D : Dk) (w : World) (h : Dsk w D) (hBs : Bs < w.heap.size) (hc : w.cell? ⟨Bs, 0, none⟩ = some D.wv) (hlen : D.ws.length ≤ 1000000) :
    SeqStopsK Fence.wide n Try.prog 85 #[.pointer (some ⟨Bs, 0, none⟩)] evs (Below w.heap.size) (fun ys => ys.map evE = D.ws.reverse) (fun pre => pre.map evE <+: D.ws.reverse) D.ws.length w := fun l J Jx W hW _ _ hY h0 => by
  have hD := h.gr hW
  have hc' := (hW.cell (p := ⟨Bs, 0, none⟩) hBs).trans hc
  rcases Nat.eq_zero_or_pos D.ws.length with hz | hz
  · have hnil := List.eq_nil_of_length_eq_zero hz
    obtain ⟨A, cap, e⟩ := hD.wait_nil hnil
    rw [e] at hc'
    exact (back0 n l Bs cap A J W hc' h0).mono fun e W' ⟨he, hj⟩ => ⟨he, .inl ⟨[], by rw [hnil]; rfl, hj⟩⟩
  · obtain ⟨g, cap, e, _, hr⟩ := hD.wait hz
    rw [e] at hc'
    have hgw := (h.own_ge (b := g) (by rw [e]; rfl)).2
    exact back1 n hn l Bs w.heap.size g cap D.ws hlen hgw hBs (fun e he => (h.wsn e he).2.1) J Jx hY W hc' hr h0
end Go.Proofs.Ytkdphgcbecldbaa
/- The disk: what is seen of a block (59). -/
namespace Go.Proofs.Ytkdphgcbecldbaa
open Go.RowKit Go.Shelf
attribute [local go_sem] Oper.semAt_some
attribute [local go_sem ↓] wp_ld93 wp_st93 wpi_ld95 wpi_st95 wpi_ld93 wpi_st93
/-- what is seen of a block -/
def see (ws : List (Nat × List Nat)) (n : Nat) (b : List Nat) : List Nat := ws.foldl (fun b e => if e.1 = n then e.2 else b) b
theorem see_none (ws : List (Nat × List Nat)) (n : Nat) (b : List Nat) (h : ∀ e, e ∈ ws → e.1 ≠ n) : see ws n b = b := by
  induction ws generalizing b with
  | nil => rfl
  | cons e r ih =>
    show see r n (if e.1 = n then e.2 else b) = b
    rw [if_neg (h e (List.mem_cons_self ..))]
    exact ih b fun e he => h e (List.mem_cons_of_mem _ he)
theorem see_append (a c : List (Nat × List Nat)) (n : Nat) (b : List Nat) : see (a ++ c) n b = see c n (see a n b) := List.foldl_append ..
theorem see_last (ws p r : List (Nat × List Nat)) (x : Nat × List Nat) (n : Nat) (b : List Nat) (h : p ++ [x] ++ r = ws.reverse) (hp : ∀ e, e ∈ p → e.1 ≠ n) (hx : x.1 = n) : see ws n b = x.2 := by
  have e : ws = r.reverse ++ ([x] ++ p.reverse) := by rw [← List.reverse_reverse ws, ← h]; simp
  rw [e, see_append, see_append]
  rw [see_none _ _ _ (fun e he => hp e (List.mem_reverse.1 he))]
  exact if_pos hx
theorem KeepsOthers.setCells : ∀ (vs : List Value) (W : World) (b o : Nat), KeepsOthers W (W.setCells b o vs)
  | [], W, _, _ => KeepsOthers.refl W
  | v :: r, W, b, o => by
    rw [World.setCells]
    exact (KeepsOthers.setCell W ⟨b, o, none⟩ v).trans (KeepsOthers.setCells r _ b (o + 1))
theorem Below.setCells {B : Nat} {a : World} (b : Nat) (hp : B ≤ b) : ∀ (vs : List Value) (o : Nat) (w : World), Below B a w → Below B a (w.setCells b o vs)
  | [], _, _, h => h
  | v :: r, o, w, h => by
    rw [World.setCells]
    exact Below.setCells b hp r (o + 1) _ (h.setCell (p := ⟨b, o, none⟩) hp v)
/-- a block of cells lies on -/
theorem blk_own {β : Type} (b : Nat) (t : TypeId) (f : β → Array Value) : Own (fun s W => W.heap[b]? = some (.cells (f s) t (0, 0))) := fun s X _ _ hs hg hr =>
  (hg.block b (Array.getElem?_eq_some_iff.1 hs).1 (fun e => by obtain ⟨o, ho, hc⟩ := hr b e.symm; rw [hs] at ho; cases ho; cases hc)).trans hs
theorem range_own {β : Type} (b o : Nat) (f : β → List Value) : Own (fun s W => World.rangeAt W b o (f s)) := fun _ _ _ _ hs hg hr j v hv => cell_kept (hs j v hv) hg hr
set_option maxRecDepth 100000 in
set_option maxHeartbeats 4000000 in
theorem seen_ok (D : Dk) (n : Nat) (w : World) (h : Dsk w D) (hn : n < D.k) (hws : D.ws.length ≤ 1000000) :
    Calls Try.prog 59 #[.pointer (some ⟨D.d, 0, none⟩), .int .i64 n] w fun r w' => r = .returned (.agg (bvs (see D.ws n (D.bl n))).toArray) ∧ Gr w w' := by
  refine (callsIn_wide (n := 3)).1 ?_
  refine callsIn_of_wp_marks Try.func59 rfl trivial ?_ rfl
  simp only [Try.ntmps59, List.size_toArray, List.length_cons, List.length_nil, Nat.reduceAdd, Nat.reduceSub, Array.replicate_succ, Array.replicate_zero, List.push_toArray, List.append_toArray, List.nil_append, List.cons_append]
  have h6 := h.c 6 rfl
  obtain ⟨A, cap, hwv⟩ := h.wvs
  rw [hwv] at h6
  have hg2 : Gr w ((w.alloc (Obj.cells #[Value.int IntKind.i64 ↑n] 3)).alloc (Obj.cells Try.zeroCells93 93)) := ((Below.refl _ w).alloc (Nat.le_refl _) _).alloc (by simp) _
  have h6a := (h.gr hg2).c 6 rfl
  rw [hwv] at h6a
  have hg3 : Gr w (((w.alloc (Obj.cells #[Value.int IntKind.i64 ↑n] 3)).alloc (Obj.cells Try.zeroCells93 93)).alloc (.cells #[.slice A D.ws.length cap] 83)) := Gr.alloc hg2 _
  have HG3 := Lib.hid hg3
  clear hg2 hg3
  have HH := Lib.hid h
  have HWV := Lib.hid hwv
  have HN := Lib.hid hn
  have HWS := Lib.hid hws
  clear h hwv hn hws
  gi_wp2_with (refine ⟨trivial, ?_⟩; gi_at_call 79; refine (callsIn_wide.2 (back_in _ _ _ _)).mono ?_; rintro e w' ⟨rfl, rfl⟩)
  obtain ⟨W0, hW0⟩ : ∃ W0, ((w.alloc (Obj.cells #[Value.int IntKind.i64 ↑n] 3)).alloc (Obj.cells Try.zeroCells93 93)).alloc (.cells #[.slice A D.ws.length cap] 83) = W0 := ⟨_, rfl⟩
  have bN : Boxed W0 w.heap.size 3 (.int .i64 n) := by rw [← hW0]; exact ((Boxed.new w 3 _).alloc _).alloc _
  have hR : W0.heap[w.heap.size + 1]? = some (.cells Try.zeroCells93 93 (0, 0)) := by
    rw [← hW0, Below.heap_alloc _ _ _ (by simp)]
    have := World.alloc_heap_new (w.alloc (Obj.cells #[Value.int IntKind.i64 ↑n] 3)) (.cells Try.zeroCells93 93)
    rwa [World.size_alloc] at this
  have bB : Boxed W0 (w.heap.size + 1 + 1) 83 (.slice A D.ws.length cap) := by
    rw [← hW0]
    have := Boxed.new ((w.alloc (Obj.cells #[Value.int IntKind.i64 ↑n] 3)).alloc (Obj.cells Try.zeroCells93 93)) 83 (.slice A D.ws.length cap)
    simp only [World.size_alloc] at this
    exact this
  have hsz : W0.heap.size = w.heap.size + 3 := by rw [← hW0]; simp
  have hG0 : Gr w W0 := by rw [← hW0]; exact HG3.out
  rw [hW0]
  clear hW0 HG3 h6 h6a
  have hD0 := HH.out.gr hG0
  have hcB : W0.cell? ⟨w.heap.size + 1 + 1, 0, none⟩ = some D.wv := by rw [HWV.out]; exact bB.cell
  refine wpIn_rangeFunc_ownH rfl (by omega) (gf := 85) (lb := #[.pointer (some ⟨w.heap.size + 1 + 1, 0, none⟩)]) rfl trivial (enters_of Try.func85 (by kernel_rfl) rfl) (back_stops (3 - 1) (by omega) (w.heap.size + 1 + 1) D W0 hD0 (by omega) hcB HWS.out) belowK_t (belowK_b (Nat.le_refl _)) (Below.refl _ _) (fun _ => rfl)
    (fun pre W => (∀ x, x ∈ pre → (evE x).1 ≠ n) ∧ Below W0.heap.size W0 W)
    (fun c pre W => (c = .ret ∧ ∃ p x, pre = p ++ [x] ∧ (∀ y, y ∈ p → (evE y).1 ≠ n) ∧ (evE x).1 = n ∧ W.rangeAt (w.heap.size + 1) 0 (bvs (evE x).2)) ∧ Below w.heap.size w W)
    (OwnFrom.and (ownFrom_pure _ _) (ownFrom_below (Nat.le_refl _) (Nat.le_refl _)))
    (fun c => OwnFrom.and (fun pre A B row hs hg hr => by obtain ⟨h1, p, x, e, hp, hx, hrg⟩ := hs; exact ⟨h1, p, x, e, hp, hx, fun j v hv => cell_kept (hrg j v hv) hg (fun r e => (hr r e).2)⟩) (ownFrom_below (Nat.le_refl _) (by omega)))
    ⟨by simp, Below.refl _ _⟩
    (fun x a' W => ∃ Bx, W0.heap.size ≤ Bx ∧ W.heap[Bx]? = some (.cells (lc (evE x)).toArray 95 (0, 0)) ∧ a' = { tmps := #[Value.pointer (some { block := D.d, off := 0 }), Value.int IntKind.i64 ↑n, undef, Value.pointer (some { block := w.heap.size, off := 0 }), Value.pointer (some { block := w.heap.size + 1, off := 0 }), undef, Value.pointer (some { block := Bx, off := 0 }), Value.pointer (some { block := D.d, off := 0 }), Value.pointer (some { block := D.d, off := 0 }), Value.pointer (some { block := D.d, off := 6 }), Value.slice A D.ws.length cap, Value.func (Fn.func 85) #[] #[Value.pointer (some { block := w.heap.size + 1 + 1, off := 0 })], .int .i64 x.1.1, .agg (lc (evE x)).toArray, undef, undef, undef, undef, undef, undef, undef, undef, undef, undef, undef, undef, undef], defers := [] })
    (fun x a' _ X Y row hs hg hr => by obtain ⟨Bx, h1, h2, h3⟩ := hs; exact ⟨Bx, h1, blk_own Bx 95 (fun (_ : Unit) => (lc (evE x)).toArray) () X Y row h2 hg (fun r e => (hr r e).2), h3⟩)
    ?assign ?body ?done ?stop
  case assign =>
    rintro l pre x W K ⟨hp, hB⟩ hK
    have hst := stv95_new W (lc (evE x)).toArray (by rw [List.size_toArray]; exact lc_len x.2) (all_oneCell_toArray lc_one)
    have hnew := heap_alloc_new W (.cells (lc (evE x)).toArray 95)
    rw [show evs x = #[.int .i64 (x.1.1 : Int), .agg (lc (evE x)).toArray] from rfl]
    have HK := Lib.hid hK
    have HNEW := Lib.hid hnew
    clear hK hnew
    generalize hX : (lc (evE x)).toArray = X at *
    have HX := Lib.hid hX
    clear hX
    gi_wp2
    exact HK.out _ _ ((KeepsOthers.alloc _ _).from _) ((Below.refl _ W).alloc hB.size _) ⟨hp, hB.alloc hB.size _⟩ ⟨W.heap.size, hB.size, HNEW.out, rfl⟩
  case body =>
    rintro l pre x a' W hl ⟨r, hr⟩ ⟨hp, hB⟩ ⟨Bx, hBx, hX, rfl⟩ hlt
    have hlx : (evE x).2.length = 256 := x.2
    have hcN : W.cell? ⟨w.heap.size, 0, none⟩ = some (.int .i64 n) := (hB.cell (p := ⟨w.heap.size, 0, none⟩) (by simp only; omega)).trans bN.cell
    have hcX : W.cell? ⟨Bx, 0, none⟩ = some (.int .i64 ((evE x).1 : Int)) := (cell_of_row _ _ _ _ _ _ hX).trans rfl
    have hlen : (bvs (evE x).2).length = 256 := by rw [bvs_len]; exact hlx
    have hrX : W.rangeAt Bx 1 (bvs (evE x).2) := fun j v hv => by
      rw [cell_of_row _ _ _ _ _ _ hX, List.getElem?_toArray, Nat.add_comm]
      unfold lc
      rw [List.getElem?_cons_succ]
      exact hv
    have hld := ldv93 hrX hlen
    have hRW : W.heap[w.heap.size + 1]? = some (.cells Try.zeroCells93 93 (0, 0)) := (hB.block _ (by omega)).trans hR
    have hthere : W.there (w.heap.size + 1) 0 256 := fun j hj => by
      rw [cell_of_row _ _ _ _ _ _ hRW, z93]
      refine ⟨?_, by simp [World.frozen?, hRW]⟩
      unfold Zb
      rw [Array.getElem?_replicate, if_pos (by omega)]; rfl
    have hst := stv93 (cells := (bvs (evE x).2).toArray) hthere (by rw [List.size_toArray]; exact hlen) (all_oneCell_toArray (bvs_one _))
    have hsame := World.rangeAt_setCells_same W (w.heap.size + 1) 0 (bvs (evE x).2) (by rw [hlen]; exact hthere)
    have HSAME := Lib.hid hsame
    have HB := Lib.hid hB
    have HP := Lib.hid hp
    have HKO := Lib.hid (KeepsOthers.setCells (bvs (evE x).2) W (w.heap.size + 1) 0)
    have HBS := Lib.hid (Below.setCells (B := w.heap.size) (a := w) (w.heap.size + 1) (by omega) (bvs (evE x).2) 0 W (hG0.trans (hB.mono (by omega))))
    clear hsame hB hp hthere hRW hrX hX hlx hlen
    rw [List.toList_toArray] at hst
    generalize W.setCells (w.heap.size + 1) 0 (bvs (evE x).2) = W2 at *
    generalize (bvs (evE x).2).toArray = C at *
    by_cases hx : (evE x).1 = n
    · have hxb : (((evE x).1 : Int) == (n : Int)) = true := by simp [hx]
      have HX := Lib.hid hx
      clear hx
      gi_wp2
      exact ⟨HKO.out.from _, ⟨rfl, pre, x, rfl, HP.out, HX.out, HSAME.out⟩, HBS.out⟩
    · have hxb : (((evE x).1 : Int) == (n : Int)) = false := by simp; omega
      have HX := Lib.hid hx
      clear hx
      gi_wp2
      refine ⟨KeepsFrom.refl _ _, Below.refl _ _, fun y hy => ?_, HB.out⟩
      rcases List.mem_append.1 hy with hy | hy
      · exact HP.out y hy
      · rw [List.mem_singleton.1 hy]; exact HX.out
  case done =>
    rintro E ys W hE hys ⟨hp, hB⟩ hK
    have hGW : Gr w W := hG0.trans (hB.mono (by omega))
    have hD := HH.out.gr hGW
    have h4 := hD.c 4 rfl
    have hcN : W.cell? ⟨w.heap.size, 0, none⟩ = some (.int .i64 n) := (hB.cell (p := ⟨w.heap.size, 0, none⟩) (by simp only; omega)).trans bN.cell
    have hlen : (bvs (D.bl n)).length = 256 := by rw [bvs_len]; exact (hD.bln n HN.out).1
    have hld := ldv93 ((World.rangeAt_drew _ _ _ _).2 (hD.bls n HN.out)) hlen
    have hRW : W.heap[w.heap.size + 1]? = some (.cells Try.zeroCells93 93 (0, 0)) := (hB.block _ (by omega)).trans hR
    have hthere : W.drew.there (w.heap.size + 1) 0 256 := fun j hj => by
      show (W.cell? _).isSome = true ∧ W.frozen? _ = false
      rw [cell_of_row _ _ _ _ _ _ hRW, z93]
      refine ⟨?_, by simp [World.frozen?, hRW]⟩
      unfold Zb
      rw [Array.getElem?_replicate, if_pos (by omega)]; rfl
    have hst := stv93 (cells := (bvs (D.bl n)).toArray) hthere (by rw [List.size_toArray]; exact hlen) (all_oneCell_toArray (bvs_one _))
    have hsame := World.rangeAt_setCells_same W.drew (w.heap.size + 1) 0 (bvs (D.bl n)) (by rw [hlen]; exact hthere)
    have hsee : see D.ws n (D.bl n) = D.bl n := see_none _ _ _ fun e he => by
      rw [← List.mem_reverse, ← hys] at he
      obtain ⟨x, hx, rfl⟩ := List.mem_map.1 he
      exact hp x hx
    have hK2 := (KeepsOthers.setCells (bvs (D.bl n)) W.drew (w.heap.size + 1) 0).same E _ hK rfl
    have hB2 := (Below.setCells (B := w.heap.size) (a := w) (w.heap.size + 1) (by omega) (bvs (D.bl n)) 0 W.drew (Below.drew hGW))
    have b1 : (0 : Int) ≤ (n : Int) := by omega
    have b2 : (n : Int) < (D.k : Int) := by have := HN.out; omega
    rw [List.toList_toArray] at hst
    have HSEE := Lib.hid hsee
    have HK := Lib.hid hK2
    have HSAME := Lib.hid hsame
    have HB := Lib.hid hB2
    have HL := Lib.hid hlen
    clear hK hB hp hD hK2 hsame hB2 hsee hRW hthere hlen hys hGW
    generalize W.drew.setCells (w.heap.size + 1) 0 (bvs (D.bl n)) = W2 at *
    gi_wp2
    refine wpIn_wide.2 ?_
    generalize hC : (bvs (D.bl n)).toArray = C at *
    have HC := Lib.hid hC
    clear hC
    go_region
    all_goals (
      gi_wp2
      rw [HSEE.out]
      refine ⟨by simp, .inl ⟨_, _, rfl, run_takeDeferred HK.out, ?_⟩⟩
      have hr2 : (W2.putObj E (.deferred none)).rangeAt (w.heap.size + 1) 0 (bvs (D.bl n)) := fun j v hv => cell_kept (HSAME.out j v hv) (grownBy_putObj' _ E (.deferred none)) (fun r e => by cases e; exact ⟨_, HK.out, rfl⟩)
      refine ⟨_, results_cell (b := w.heap.size + 1) rfl rfl (run_loadVar_mid _ _ _ 93 _ _ hr2 Try.underlying93 rfl (by rw [HL.out]; exact sz93)), rfl, HB.out.trans (belowK_b (w := w) (Nat.le_refl _) W2 E _ _ (by omega) HK.out rfl rfl)⟩)
  case stop =>
    rintro E c pre W hE hpre ⟨⟨rfl, p, x, rfl, hp, hx, hr⟩, hB⟩ hK
    gi_wp2
    have hsee : see D.ws n (D.bl n) = (evE x).2 := by
      obtain ⟨t, ht⟩ := hpre
      exact see_last _ (p.map evE) t (evE x) n _ (by rw [← ht]; simp) (fun e he => by obtain ⟨y, hy, rfl⟩ := List.mem_map.1 he; exact hp y hy) hx
    rw [hsee]
    have hlen : (bvs (evE x).2).length = 256 := by rw [bvs_len]; exact x.2
    refine ⟨by simp, .inl ⟨_, _, rfl, run_takeDeferred hK, ?_⟩⟩
    have hr2 : (W.putObj E (.deferred none)).rangeAt (w.heap.size + 1) 0 (bvs (evE x).2) := fun j v hv => cell_kept (hr j v hv) (grownBy_putObj' _ E (.deferred none)) (fun r e => by cases e; exact ⟨_, hK, rfl⟩)
    refine ⟨_, results_cell (b := w.heap.size + 1) rfl rfl (run_loadVar_mid _ _ _ 93 _ _ hr2 Try.underlying93 rfl (by rw [hlen]; exact sz93)), rfl, hB.trans (belowK_b (w := w) (Nat.le_refl _) W E _ _ (by omega) hK rfl rfl)⟩
end Go.Proofs.Ytkdphgcbecldbaa
/- The disk: Read (32). -/
namespace Go.Proofs.Ytkdphgcbecldbaa
open Go.RowKit
attribute [local go_sem ↓] wp_ld93 wp_st93
set_option maxRecDepth 100000 in
set_option maxHeartbeats 1000000 in
theorem read_down (D : Dk) (n : Int) (w : World) (h : Dsk w D) (hd : D.dn = true) :
    Calls Try.prog 32 #[.pointer (some ⟨D.d, 0, none⟩), .int .i64 n] w fun r w' => r = .returned (.tuple #[.slice none 0 0, .int .i64 11]) ∧ Gr w w' := by
  have HH := Lib.hid h
  have Hd := Lib.hid hd
  clear h hd
  by_cases hn : n < 0 ∨ (D.k : Int) ≤ n
  · have HN := Lib.hid hn
    clear hn
    go_enter Try.func32, Try.ntmps32
    go_wp2_with fail
    refine (up_no D _ HH.out Hd.out).mono ?_
    rintro e w1 ⟨rfl, rfl⟩
    go_wp2_with fail
    refine (there_no D n _ HH.out HN.out).mono ?_
    rintro e w1 ⟨rfl, rfl⟩
    go_wp2_with fail
    refine (first_nn _ _ 11 n 2 (heap_alloc_new w _)).mono ?_
    rintro e w1 ⟨rfl, rfl⟩
    have HG := Lib.hid (Gr.at_alloc w (.cells #[.iface 89 (.int .i64 11), .iface 91 (.agg #[.int .i64 n, .iface 89 (.int .i64 2)])] 70))
    generalize w.alloc (.cells #[.iface 89 (.int .i64 11), .iface 91 (.agg #[.int .i64 n, .iface 89 (.int .i64 2)])] 70) = W at *
    go_wp2_with fail
    refine (told_cd 11 _ (by omega)).mono ?_
    rintro e w2 ⟨rfl, hg⟩
    go_wp2_with fail
    refine bodyPost_ret (results_tmp2 rfl _ _ _) rfl ?_
    exact ⟨rfl, Gr.step hg HG.out⟩
  · have h0 : 0 ≤ n := by omega
    have h1 : n < D.k := by omega
    clear hn
    go_enter Try.func32, Try.ntmps32
    go_wp2_with fail
    refine (up_no D _ HH.out Hd.out).mono ?_
    rintro e w1 ⟨rfl, rfl⟩
    go_wp2_with fail
    refine (there_ok D n _ HH.out h0 h1).mono ?_
    rintro e w1 ⟨rfl, rfl⟩
    go_wp2_with fail
    refine (first_no _ _ 11 (heap_alloc_new w _)).mono ?_
    rintro e w1 ⟨rfl, rfl⟩
    have HG := Lib.hid (Gr.at_alloc w (.cells #[.iface 89 (.int .i64 11), .nilIface] 70))
    generalize w.alloc (.cells #[.iface 89 (.int .i64 11), .nilIface] 70) = W at *
    go_wp2_with fail
    refine (told_cd 11 _ (by omega)).mono ?_
    rintro e w2 ⟨rfl, hg⟩
    go_wp2_with fail
    refine bodyPost_ret (results_tmp2 rfl _ _ _) rfl ?_
    exact ⟨rfl, Gr.step hg HG.out⟩
set_option maxRecDepth 100000 in
set_option maxHeartbeats 1000000 in
theorem read_out (D : Dk) (n : Int) (w : World) (h : Dsk w D) (hd : D.dn = false) (hn : n < 0 ∨ (D.k : Int) ≤ n) :
    Calls Try.prog 32 #[.pointer (some ⟨D.d, 0, none⟩), .int .i64 n] w fun r w' => r = .returned (.tuple #[.slice none 0 0, .int .i64 2]) ∧ Gr w w' := by
  have HH := Lib.hid h
  have Hd := Lib.hid hd
  have HN := Lib.hid hn
  clear h hd hn
  go_enter Try.func32, Try.ntmps32
  go_wp2_with fail
  refine (up_ok D _ HH.out Hd.out).mono ?_
  rintro e w1 ⟨rfl, rfl⟩
  go_wp2_with fail
  refine (there_no D n _ HH.out HN.out).mono ?_
  rintro e w1 ⟨rfl, rfl⟩
  go_wp2_with fail
  refine (first_on _ _ n 2 (heap_alloc_new w _)).mono ?_
  rintro e w1 ⟨rfl, rfl⟩
  have HG := Lib.hid (Gr.at_alloc w (.cells #[.nilIface, .iface 91 (.agg #[.int .i64 n, .iface 89 (.int .i64 2)])] 70))
  generalize w.alloc (.cells #[.nilIface, .iface 91 (.agg #[.int .i64 n, .iface 89 (.int .i64 2)])] 70) = W at *
  go_wp2_with fail
  refine (told_at n 2 _ (by omega)).mono ?_
  rintro e w2 ⟨rfl, hg⟩
  go_wp2_with fail
  refine bodyPost_ret (results_tmp2 rfl _ _ _) rfl ?_
  exact ⟨rfl, Gr.step hg HG.out⟩
set_option maxRecDepth 100000 in
set_option maxHeartbeats 1000000 in
theorem read_ok (D : Dk) (n : Nat) (w : World) (h : Dsk w D) (hd : D.dn = false) (hn : n < D.k) (hws : D.ws.length ≤ 1000000) :
    Calls Try.prog 32 #[.pointer (some ⟨D.d, 0, none⟩), .int .i64 n] w fun r w' => ∃ b, w.heap.size ≤ b ∧ w'.heap[b]? = some (.cells (bvs (see D.ws n (D.bl n))).toArray 93 (0, 0)) ∧ r = .returned (.tuple #[.slice (some ⟨b, 0, none⟩) 256 256, .int .i64 0]) ∧ Gr w w' := by
  have hsl : (see D.ws n (D.bl n)).length = 256 := by
    have h1 := (h.bln n hn).1
    have h2 : ∀ e, e ∈ D.ws → e.2.length = 256 := fun e he => (h.wsn e he).2.1
    generalize D.bl n = b at *
    generalize D.ws = ws at *
    clear hws h
    induction ws generalizing b with
    | nil => exact h1
    | cons e r ih =>
      refine ih (if e.1 = n then e.2 else b) ?_ fun e he => h2 e (List.mem_cons_of_mem _ he)
      split
      · exact h2 e (List.mem_cons_self ..)
      · exact h1
  have hlen : (bvs (see D.ws n (D.bl n))).length = 256 := by rw [bvs_len]; exact hsl
  have hst := fun W => stv93_new W (bvs (see D.ws n (D.bl n))).toArray (by rw [List.size_toArray]; exact hlen) (all_oneCell_toArray (bvs_one _))
  have HS := Lib.hid (fun W (hD : Dsk W D) => seen_ok D n W hD hn hws)
  have HH := Lib.hid h
  have Hd := Lib.hid hd
  have HN := Lib.hid hn
  clear h hd hn hlen hsl hws
  generalize (bvs (see D.ws n (D.bl n))).toArray = X at *
  go_enter Try.func32, Try.ntmps32
  go_wp2_with fail
  refine (up_ok D _ HH.out Hd.out).mono ?_
  rintro e w1 ⟨rfl, rfl⟩
  go_wp2_with fail
  refine (there_ok D n _ HH.out (by omega) (by have := HN.out; omega)).mono ?_
  rintro e w1 ⟨rfl, rfl⟩
  go_wp2_with fail
  refine (first_oo _ _ (heap_alloc_new w _)).mono ?_
  rintro e w1 ⟨rfl, rfl⟩
  have HG := Lib.hid (Gr.at_alloc w (.cells #[.nilIface, .nilIface] 70))
  generalize w.alloc (.cells #[.nilIface, .nilIface] 70) = W at *
  go_wp2_with fail
  refine (HS.out W (HH.out.gr HG.out)).mono ?_
  rintro e w2 ⟨rfl, hg⟩
  have HG2 := Lib.hid hg
  have hst2 := hst w2
  clear hg hst
  go_wp2_with fail
  refine bodyPost_ret (results_tmp2 rfl _ _ _) rfl ?_
  have hg2 : Gr w w2 := Gr.step HG2.out HG.out
  exact ⟨w2.heap.size, hg2.size, heap_alloc_new w2 _, rfl, Gr.alloc hg2 _⟩
end Go.Proofs.Ytkdphgcbecldbaa
/- The disk: Write. -/
namespace Go.Proofs.Ytkdphgcbecldbaa
open Go.RowKit
attribute [local go_sem ↓] wp_ld95 wp_st95 wp_bs83
theorem one95 (n : Int) : (#[Value.int .i64 n] ++ Zb).all (·.oneCell') = true := by kernel_rfl
set_option maxRecDepth 100000 in
set_option maxHeartbeats 1000000 in
theorem write_ok (D : Dk) (n : Nat) (A : Option Addr) (len c : Nat) (l : List Nat) (B : Nat) (w : World) (h : Dsk w D) (hb : Bs w B ⟨A, len, c⟩ l) (hB : B ≤ w.heap.size) (hf : 0 < len → ∀ b o, A = some ⟨b, o, none⟩ → ¬ D.fp b) (hd : D.dn = false) (hn : n < D.k) (hl : len ≤ 256) (har : ¬ D.ar = 1) (hws : D.ws.length ≤ 1000000) :
   Calls Try.prog 26 #[.pointer (some ⟨D.d, 0, none⟩), .int .i64 n, .slice A len c] w fun r w' => r = .returned (.int .i64 0) ∧ ∃ v, Mv w D w' { D.turn with wv := v, ws := D.ws ++ [(n, pad l)] } := by
  have HH := Lib.hid h
  have Hd := Lib.hid hd
  have HS := Lib.hid hb
  have HF := Lib.hid hf
  clear h hd hb hf
  obtain ⟨i0, hi0, hz0, hz1, hz2⟩ := info_parts info95
  go_enter Try.func26, Try.ntmps26
  go_wp2_with fail
  refine (up_ok D _ HH.out Hd.out).mono ?_
  rintro e w1 ⟨rfl, rfl⟩
  go_wp2_with fail
  refine (there_ok D n _ HH.out (by omega) (by omega)).mono ?_
  rintro e w1 ⟨rfl, rfl⟩
  go_wp2_with fail
  have hg1 := Gr.at_alloc w (.cells #[.nilIface, .nilIface] 70)
  refine (first_oo _ _ (heap_alloc_new w _)).mono ?_
  rintro e w1 ⟨rfl, rfl⟩
  have HD := Lib.hid (HH.out.gr hg1)
  have HG := Lib.hid hg1
  clear hg1
  generalize w.alloc (.cells #[.nilIface, .nilIface] 70) = W at *
  go_wp2_with fail
  refine (turn_yes D _ HD.out har).mono ?_
  rintro e w1 ⟨rfl, hm⟩
  simp only [De.v]
  have hll : l.length = len := HS.out.1.symm
  have hsrc : ∀ ad, A = some ad → ∀ j u, (bvs l)[j]? = some u → (w1.alloc (.cells (.int .i64 (n : Int) :: bvs (Z 256)).toArray 95)).cell? (ad.add j) = some u := by
    intro ad had j u hu
    obtain ⟨hj, rfl⟩ := bvs_at hu
    obtain ⟨b, o, hA, hbB, hx⟩ := HS.out.at_ (show 0 < len by omega)
    simp only at hA
    have e : ad = ⟨b, o, none⟩ := by rw [had] at hA; injection hA
    subst e
    have hx' := hx j (show j < len by omega)
    have hlt : b < w.heap.size := by omega
    have k1 : w1.cell? ⟨b, o + j, none⟩ = some (.int .u8 ((l.getD j 0 : Nat) : Int)) := by
      rw [hm.1.cell (p := ⟨b, o + j, none⟩) (Nat.lt_of_lt_of_le hlt HG.out.size) (HF.out (by omega) b o had), Below.cell HG.out hlt]
      exact hx'
    rw [Addr.add_lit, Below.cell (Gr.at_alloc w1 _) (World.block_lt_of_cell? w1 _ k1)]
    exact k1
  have hcur := heap_alloc_new w1 (.cells (.int .i64 (n : Int) :: bvs (Z 256)).toArray 95)
  have hgr := Gr.at_alloc w1 (.cells (.int .i64 (n : Int) :: bvs (Z 256)).toArray 95)
  have hX0 : Try.zeroCells95.setIfInBounds 0 (.int .i64 (n : Int)) = (.int .i64 (n : Int) :: bvs (Z 256)).toArray := by
    rw [z95, ← Zb_list]
    apply Array.ext'
    rw [Array.toList_setIfInBounds, Array.toList_append, Array.toList_append]
    rfl
  have hst' : ∀ W : World, stv 95 (.pointer (some ⟨W.heap.size, 0, none⟩)) (.agg (Try.zeroCells95.setIfInBounds 0 (.int .i64 (n : Int)))) (W.alloc (.cells Try.zeroCells95 95)) = .ok () (W.alloc (.cells (.int .i64 (n : Int) :: bvs (Z 256)).toArray 95)) := fun W => by
    rw [hX0]
    exact stv95_new W _ (by rw [List.size_toArray, List.length_cons, bvs_len, Z_len]) (by rw [← Zb_list]; exact one95 n)
  have HX0 := Lib.hid hX0
  clear hX0
  have HM := Lib.hid hm
  have HSRC := Lib.hid hsrc
  have HL := Lib.hid hll
  have HCUR := Lib.hid hcur
  have HGR := Lib.hid hgr
  clear hm hsrc hll hcur hgr
  go_wp2_with (refine wpList_copy_splice (o := ⟨some 40, _, _, _, _, _⟩) rfl (.tmp 38) (.tmp 39) 24 24 rfl 5 Try.underlying24 size5 (some ⟨w1.heap.size, 1, none⟩) A 256 256 len c rfl rfl w1.heap.size 1 (.int .i64 (n : Int) :: bvs (Z 256)) 95 HCUR.out (bvs l) ?cn ?cp ?cf (bvs_one l) w1.heap.size w1 HGR.out (Nat.le_refl _) ?_)
  case cn => rw [bvs_len, HL.out]; exact (Nat.min_eq_left hl).symm
  case cp =>
    intro hpos
    rw [bvs_len, HL.out] at hpos
    obtain ⟨b, o, hA, _⟩ := HS.out.at_ hpos
    exact ⟨_, hA, HSRC.out _ hA⟩
  case cf => rw [bvs_len, HL.out, List.length_cons, bvs_len, Z_len]; omega
  intro w2 hw2 hg2
  have hw2' : w2.heap[w1.heap.size]? = some (.cells (lc (n, pad l)).toArray 95 (0, 0)) := by
    have := hw2.out
    rw [splice_pad] at this
    exact this
  have hlt2 : w1.heap.size < w2.heap.size := Blk.lt (t := 95) hw2'
  have HX := Lib.hid hw2'
  have HG2 := Lib.hid hg2
  clear hw2 hg2 hw2' HCUR HGR HSRC hst'
  generalize hge : w1.heap.size = g at *
  have HGE := Lib.hid hge
  clear hge
  go_wp2_with fail
  have hD2 := HM.out.2.1.gr (show Gr w1 w2 by unfold Gr; rw [HGE.out]; exact HG2.out)
  have hc6 : w2.cell? ⟨D.d, 6, none⟩ = some D.wv := hD2.c 6 rfl
  have hf6 : w2.frozen? ⟨D.d, 6, none⟩ = false := hD2.f 6 (by omega)
  have hr : w2.rangeAt g 0 (lc (n, pad l)) := fun j v hv => by
    rw [cell_of_row w2 g _ _ _ _ HX.out, Nat.zero_add, ← hv]
    exact List.getElem?_toArray ..
  have hown : w2.ownsRow D.base 95 257 D.wv D.ws.length (lrow D.ws) := hD2.own
  have hlc : (lc (n, pad l)).length = 257 := by unfold lc; rw [List.length_cons, bvs_len, pad_len (by rw [HL.out]; exact hl)]
  have hbs : D.base ≤ w2.heap.size := hD2.o7
  have hdl : D.d < w2.heap.size := Nat.lt_of_lt_of_le hD2.o4 hbs
  have hone : ∀ u ∈ lc (n, pad l), u.oneCell' = true := by
    intro u hu
    rcases List.mem_cons.1 hu with rfl | h
    · rfl
    · exact bvs_one _ u h
  have hdn : some D.d ≠ D.wv.ownBlock := fun e => hD2.not_own (b := D.d) hD2.o4 e.symm
  have HOWN := Lib.hid hown
  have HLC := Lib.hid hlc
  have HR := Lib.hid hr
  have HONE := Lib.hid hone
  have HDN := Lib.hid hdn
  have HD2 := Lib.hid hD2
  have HMA : Hid (Mv w D w2 D.turn) := (Mv.gr HH.out HG.out).trans (HM.out.trans (Mv.gr HM.out.2.1 (show Gr w1 w2 by unfold Gr; rw [HGE.out]; exact HG2.out)))
  have HSM : Hid (Small l) := HS.out.2.1
  clear hown hlc hD2 hr hone hdn
  have hld := ldv95 ((World.rangeAt_drew _ _ _ _).2 HR.out) HLC.out
  have hbs2 := fun W => bsv83 W (lc (n, pad l)).toArray (by rw [List.size_toArray]; exact HLC.out)
  have HBS : Hid (D.base ≤ w2.heap.size) := hbs
  have hk6 : ∀ o, (w2.alloc o).cell? ⟨D.d, 6, none⟩ = some D.wv := fun o => by rw [World.cell?_alloc_lt _ _ _ hdl]; exact hc6
  have HWS : Hid (D.ws.length ≤ 1000000) := hws
  have HDL := Lib.hid hdl
  generalize hXX : (lc (n, pad l)).toArray = X at *
  have HXX := Lib.hid hXX
  clear hXX hbs hws hdl
  have hkf : ∀ o, (w2.alloc o).frozen? ⟨D.d, 6, none⟩ = false := fun o => by rw [World.frozen?_alloc_past _ _ _ HDL.out]; exact hf6
  go_region_law ((refine step_append_lies _ (by rfl) (.tmp 45) (.tmp 47) 83 (by rfl) D.base 95 i0 _ 257 264 Try.underlying83 hi0 hz0 hz1 hz2 (by kernel_rfl) (by omega) D.wv D.ws.length (lrow D.ws) (by rfl) ((HOWN.out.alloc _).drew) (⟨w2.heap.size, 0, none⟩ : Addr) 1 1 (lc (n, pad l)) (by rfl) (by rw [HLC.out]) (World.news_of_block (cs := (lc (n, pad l)).toArray) (t := 95) (fr := (0, 0)) (by rw [HXX.out]; exact heap_alloc_new w2 _)) HONE.out (by omega) (by have := HWS.out; unfold maxLen; omega) (by have := HWS.out; omega) (by have := HBS.out; simp; omega) (w2.heap.size + 1) (by simp) ?_; intro gg cap w3 hown1 hgrow hat hlt; have h36 := (hgrow.cell_far ⟨D.d, 6, none⟩ (by have := HDL.out; simp; omega) HDN.out).trans (hk6 _); have f36 := (hgrow.frozen_far ⟨D.d, 6, none⟩ (by have := HDL.out; simp; omega) HDN.out).trans (hkf _); have HOWN1 := Lib.hid hown1; have HGROW := Lib.hid hgrow; have HAT := Lib.hid hat; clear hown1 hgrow hat hlt))
  all_goals (
    have HMV : Hid (Mv w2 D.turn (w3.setCell ⟨D.d, 6, none⟩ (.slice (some ⟨gg, 0, none⟩) (D.ws.length + 1) cap)) { D.turn with wv := .slice (some ⟨gg, 0, none⟩) (D.ws.length + 1) cap, ws := D.ws ++ [(n, pad l)] }) := Lib.hid (Mv.app HD2.out (by show n < D.k; exact hn) (pad_len (by rw [HL.out]; exact hl)) (small_pad HSM.out) HOWN1.out HGROW.out HAT.out)
    generalize w3.setCell ⟨D.d, 6, none⟩ (.slice (some ⟨gg, 0, none⟩) (D.ws.length + 1) cap) = w4 at *
    go_wp2_with fail
    refine (told_ok _).mono ?_
    rintro e w5 ⟨rfl, hg5⟩
    go_wp2_with fail
    go_ret
    refine ⟨rfl, _, ((HMA.out.trans HMV.out).trans (Mv.gr HMV.out.2.1 hg5))⟩)
end Go.Proofs.Ytkdphgcbecldbaa
