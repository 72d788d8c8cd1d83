/- The disk: the waits backward (79, 85), and what is seen of a block (59). -/
import Derived.Test.YtkdphgcbecldbaaDevW
import Derived.Test.YtkdphgcbecldbaaDevY
import Derived.RangeFuncNested
import Derived.RangeFuncBound
import Derived.RangeFuncCalls
import Derived.RangeFuncLeaves
import Derived.Shelf.Abstract
import Derived.WalkKit
import Derived.OwnWalkIn
import Derived.TacticsInMore
import Derived.LoopNIn
import Derived.LoopIn
namespace Go.Proofs.Ytkdphgcbecldbaa
open Go.RowKit Go.Shelf
attribute [local go_sem] Oper.semAt_some
theorem wpi_ld95 {F : Fence} {n : Nat} {dst : Option Tmp} {x : Operand} {ty : TypeId} {pos : String} {af} {gd} {a : Act} {w : World} {K Q} :
    Oper.wpIn F n Try.prog ⟨dst, .load 95 x, ty, pos, af, gd⟩ a w K Q = Oper.uponIn F n Try.prog ⟨dst, .load 95 x, ty, pos, af, gd⟩ a K Q ((ldv 95 (a.eval x) w).andThen fun v w' => .ok (.value v) w') := by
  unfold Oper.wpIn ldv
  rw [Oper.semAt_eq _ _ _ (fun c h => by cases h)]
  simp only [execOp, Sem.run_bind, Oper.about]
  simp
theorem wpi_ld93 {F : Fence} {n : Nat} {dst : Option Tmp} {x : Operand} {ty : TypeId} {pos : String} {af} {gd} {a : Act} {w : World} {K Q} :
    Oper.wpIn F n Try.prog ⟨dst, .load 93 x, ty, pos, af, gd⟩ a w K Q = Oper.uponIn F n Try.prog ⟨dst, .load 93 x, ty, pos, af, gd⟩ a K Q ((ldv 93 (a.eval x) w).andThen fun v w' => .ok (.value v) w') := by
  unfold Oper.wpIn ldv
  rw [Oper.semAt_eq _ _ _ (fun c h => by cases h)]
  simp only [execOp, Sem.run_bind, Oper.about]
  simp
theorem wpi_st95 {F : Fence} {n : Nat} {dst : Option Tmp} {x y : Operand} {ty : TypeId} {pos : String} {af} {gd} {a : Act} {w : World} {K Q} :
    Oper.wpIn F n Try.prog ⟨dst, .store 95 x y, ty, pos, af, gd⟩ a w K Q = Oper.uponIn F n Try.prog ⟨dst, .store 95 x y, ty, pos, af, gd⟩ a K Q ((stv 95 (a.eval x) (a.eval y) w).andThen fun _ w' => .ok .skip w') := by
  unfold Oper.wpIn stv
  rw [Oper.semAt_eq _ _ _ (fun c h => by cases h)]
  simp only [execOp, Sem.run_bind, Oper.about]
  simp
theorem wpi_st93 {F : Fence} {n : Nat} {dst : Option Tmp} {x y : Operand} {ty : TypeId} {pos : String} {af} {gd} {a : Act} {w : World} {K Q} :
    Oper.wpIn F n Try.prog ⟨dst, .store 93 x y, ty, pos, af, gd⟩ a w K Q = Oper.uponIn F n Try.prog ⟨dst, .store 93 x y, ty, pos, af, gd⟩ a K Q ((stv 93 (a.eval x) (a.eval y) w).andThen fun _ w' => .ok .skip w') := by
  unfold Oper.wpIn stv
  rw [Oper.semAt_eq _ _ _ (fun c h => by cases h)]
  simp only [execOp, Sem.run_bind, Oper.about]
  simp
attribute [local go_sem ↓] wpi_ld95 wpi_st95 wpi_ld93 wpi_st93

/-- what the iterator hands out -/
abbrev Ev := { x : Nat × (Nat × List Nat) // x.2.2.length = 256 }
def evE (x : Ev) : Nat × List Nat := x.1.2
def evs (x : Ev) : Array Value := #[.int .i64 (x.1.1 : Int), .agg (lc (evE x)).toArray]
set_option maxRecDepth 100000 in
set_option maxHeartbeats 2000000 in
theorem back1 (n : Nat) (hn : 1 ≤ n) (l Bs n₀ g cap : Nat) (ws : List (Nat × List Nat)) (hreach : ws.length ≤ 1000000) (hg : g < n₀) (hBn : Bs < n₀) (hwl : ∀ e, e ∈ ws → e.2.length = 256) (J Jx : List Ev → World → Prop)
    (hY : ∀ pre x W, J pre W → pre.length < ws.length → YieldAt Fence.wide (n - 1) Try.prog l (evs x) W fun e W' =>
      (e = .returned (.bool true) ∧ J (pre ++ [x]) W' ∧ Below n₀ W W') ∨ (e = .returned (.bool false) ∧ Jx (pre ++ [x]) W'))
    (W : World) (hBs : W.cell? ⟨Bs, 0, none⟩ = some (.slice (some ⟨g, 0, none⟩) ws.length cap)) (hw : ∀ i (hi : i < ws.length), W.rangeAt g (i * 257) (lc ws[i])) (h0 : J [] W) :
    CallsIn Fence.wide n Try.prog 85 #[.func (.yield l) #[] #[], .pointer (some ⟨Bs, 0, none⟩)] W fun e W' => (∃ v, e = .returned v) ∧
      ((∃ ys, ys.map evE = ws.reverse ∧ J ys W') ∨ (∃ pre, pre.map evE <+: ws.reverse ∧ Jx pre W')) := by
  refine callsIn_of_wp Try.func85 rfl trivial ?_ rfl
  simp only [Try.ntmps85, List.size_toArray, List.length_cons, List.length_nil, Nat.reduceAdd, Nat.reduceSub, Array.replicate_succ, Array.replicate_zero, List.push_toArray, List.append_toArray, List.nil_append, List.cons_append]
  gi_wp2
  gi_loopw [3] (fun i wr => ∃ j : Nat, j ≤ ws.length ∧ i = .int .i64 ((j : Int) - 1) ∧ (∃ pre : List Ev, pre.map evE = ws.reverse.take (ws.length - j) ∧ J pre wr) ∧ Below n₀ W wr)
    (fun i _ => (intOf i + 1).toNat)
  case atStart => exact ⟨ws.length, Nat.le_refl _, by go_num, ⟨[], by simp, h0⟩, Below.refl _ _⟩
  case round =>
    obtain ⟨j, hj, rfl, ⟨pre, hpre, hJs⟩, hnx⟩ := hrel
    have hc1 : wr.cell? ⟨Bs, 0, none⟩ = some (.slice (some ⟨g, 0, none⟩) ws.length cap) := (hnx.cell (p := ⟨Bs, 0, none⟩) hBn).trans hBs
    cases j with
    | zero =>
      gi_wp2
      go_end0
      exact ⟨⟨_, rfl⟩, .inl ⟨pre, by rw [hpre, Nat.sub_zero, List.take_of_length_le (by simp)], hJs⟩⟩
    | succ j =>
      have hjl : j < ws.length := hj
      have e1 : ((j + 1 : Nat) : Int) - 1 = (j : Int) := by omega
      rw [e1]
      have hl5 : (ws[j]).2.length = 256 := hwl _ (List.getElem_mem hjl)
      have hx : wr.rangeAt g (j * 257) (lc ws[j]) := fun i v hv => (hnx.cell (p := ⟨g, j * 257 + i, none⟩) hg).trans (hw j hjl i v hv)
      have hld := ldv95 hx (lc_len hl5)
      have hlen : pre.length < ws.length := by
        have := congrArg List.length hpre
        simp at this
        omega
      obtain ⟨fn, tmps, assign, body, hy, hR⟩ := hY pre ⟨(j, ws[j]), hl5⟩ wr hJs hlen
      dsimp only [evs, evE] at hy
      have hsn : (pre ++ [(⟨(j, ws[j]), hl5⟩ : Ev)]).map evE = ws.reverse.take (ws.length - j) := by
        rw [List.map_append, hpre, show ws.length - j = (ws.length - (j + 1)) + 1 by omega, List.take_succ_eq_append_getElem (by simp; omega)]
        congr 1
        simp [evE]
        congr 1
        omega
      have HSN := Lib.hid hsn
      clear hsn hx hwl hw hpre
      generalize (lc ws[j]).toArray = X at *
      have b1 : (0 : Int) ≤ (j : Int) := by omega
      have b2 : (j : Int) < (ws.length : Int) := by omega
      gi_wp2
      refine hR.mono ?_
      rintro e W3 (⟨rfl, hJ3, hk3⟩ | ⟨rfl, hJx3⟩)
      · gi_wp2
        go_roundw
        case rel => exact ⟨j, by omega, by go_num, ⟨_, HSN.out, hJ3⟩, hnx.trans hk3⟩
        case measure => simp [intOf]
      · gi_wp2
        refine bodyPost_ret (results_none rfl _ _ _) rfl ?_
        exact ⟨⟨_, rfl⟩, .inr ⟨_, by rw [HSN.out]; exact List.take_prefix _ _, hJx3⟩⟩
set_option maxRecDepth 100000 in
set_option maxHeartbeats 2000000 in
theorem back0 (n l Bs cap : Nat) (A : Option Addr) (J : List Ev → World → Prop) (W : World) (hBs : W.cell? ⟨Bs, 0, none⟩ = some (.slice A 0 cap)) (h0 : J [] W) :
    CallsIn Fence.wide n Try.prog 85 #[.func (.yield l) #[] #[], .pointer (some ⟨Bs, 0, none⟩)] W fun e W' => (∃ v, e = .returned v) ∧ J [] W' := by
  refine callsIn_of_wp Try.func85 rfl trivial ?_ rfl
  simp only [Try.ntmps85, List.size_toArray, List.length_cons, List.length_nil, Nat.reduceAdd, Nat.reduceSub, Array.replicate_succ, Array.replicate_zero, List.push_toArray, List.append_toArray, List.nil_append, List.cons_append]
  gi_wp2
  gi_loopw [3] (fun i wr => i = .int .i64 (-1) ∧ J [] wr) (fun _ _ => 0)
  case atStart => exact ⟨rfl, h0⟩
  case round =>
    obtain ⟨rfl, hJs⟩ := hrel
    gi_wp2
    go_end0
    exact ⟨⟨_, rfl⟩, hJs⟩
set_option maxHeartbeats 1000000 in
theorem back_in (A : Option Addr) (len cap : Nat) (w : World) :
    Calls Try.prog 79 #[.slice A len cap] w fun r w' => r = .returned (.func (.func 85) #[] #[.pointer (some ⟨w.heap.size, 0, none⟩)]) ∧ w' = w.alloc (.cells #[.slice A len cap] 83) := by
  go_enter Try.func79, Try.ntmps79
  go_wp2_with fail
  go_ret
  exact ⟨rfl, rfl⟩
theorem back_stops (n : Nat) (hn : 1 ≤ n) (Bs : Nat) (D : Dk) (w : World) (h : Dsk w D) (hBs : Bs < w.heap.size) (hc : w.cell? ⟨Bs, 0, none⟩ = some D.wv) (hlen : D.ws.length ≤ 1000000) :
    SeqStopsK Fence.wide n Try.prog 85 #[.pointer (some ⟨Bs, 0, none⟩)] evs (Below w.heap.size) (fun ys => ys.map evE = D.ws.reverse) (fun pre => pre.map evE <+: D.ws.reverse) D.ws.length w := fun l J Jx W hW _ _ hY h0 => by
  have hD := h.gr hW
  have hc' := (hW.cell (p := ⟨Bs, 0, none⟩) hBs).trans hc
  rcases Nat.eq_zero_or_pos D.ws.length with hz | hz
  · have hnil := List.eq_nil_of_length_eq_zero hz
    obtain ⟨A, cap, e⟩ := hD.wait_nil hnil
    rw [e] at hc'
    exact (back0 n l Bs cap A J W hc' h0).mono fun e W' ⟨he, hj⟩ => ⟨he, .inl ⟨[], by rw [hnil]; rfl, hj⟩⟩
  · obtain ⟨g, cap, e, _, hr⟩ := hD.wait hz
    rw [e] at hc'
    have hgw := (h.own_ge (b := g) (by rw [e]; rfl)).2
    exact back1 n hn l Bs w.heap.size g cap D.ws hlen hgw hBs (fun e he => (h.wsn e he).2.1) J Jx hY W hc' hr h0
end Go.Proofs.Ytkdphgcbecldbaa
