/- The disk: some, store. -/
import Derived.Test.YtkdphgcbecldbaaDevI
import Derived.StillTailTactics
namespace Go.Proofs.Ytkdphgcbecldbaa
open Go.RowKit
theorem wpList_copied (w : World) {ops : Array Oper} {rest : List Oper} {o : Oper} {a : Act} {Q : Exit → Act → World → Prop} (hgd : o.guard = none) (d s : Operand) (t t' : TypeId)
    (ho : o.op = .call { callee := .builtin .copy, args := #[d, s], argTypes := #[t, t'] }) (v u : Value) (hd : a.eval d = v) (hs : a.eval s = u) {v' : Value} {w' : World}
    (hr : (Builtin.copy_ #[t, t'] o.type #[v, u]).run Try.prog w = .ok v' w') (h : wpList Try.prog ops Q rest (a.put o.dst v') w') : wpList Try.prog ops Q (o :: rest) a w :=
  wpList_plain hgd fun _ hK => by
    unfold Oper.wp execOp
    simp only [ho, resolve, invoke, builtin, Sem.run_bind, Sem.run_pure, Result.andThen_ok, List.map_toArray, List.map_cons, List.map_nil, hd, hs, hr]
    exact hK _ _ h
set_option maxRecDepth 100000 in
set_option maxHeartbeats 1000000 in
theorem some_any (x bb o many : Nat) (l : List Nat) (w : World) (hm : many ≤ 8) (hl : l.length = 256) (hx : w.rangeAt x 1 (bvs l)) (hT : w.there bb o 256) :
    Calls Try.prog 78 #[.pointer (some ⟨x, 0, none⟩), .pointer (some ⟨bb, o, none⟩), .int .i64 many] w fun r w' => r = .returned (.tuple #[]) ∧ w' = w.drew.setCells bb o (bvs (l.take (32 * many))) := by
  have hrun := run_copy_cells (P := Try.prog) w.drew 24 24 3 5 bb o (many * 32) 256 ⟨x, 1, none⟩ 256 256 (bvs (l.take (32 * many))) Try.underlying24 size5
    (by rw [bvs_len, List.length_take, hl, Nat.mul_comm]; exact Nat.min_comm _ _)
    (fun j v hv => by
      rw [Addr.add_mid]
      refine (World.rangeAt_drew _ _ _ _).2 hx j v ?_
      unfold bvs at hv ⊢
      rw [List.map_take, List.getElem?_take] at hv
      split at hv
      · exact hv
      · cases hv)
    (fun j hj => ((World.there_drew _ _ _ _).2 hT j (by rw [bvs_len, List.length_take] at hj; omega)).1)
    (fun j hj => ((World.there_drew _ _ _ _).2 hT j (by rw [bvs_len, List.length_take] at hj; omega)).2)
    (bvs_one _)
  have HR := Lib.hid hrun
  clear hrun hx hT
  have i1 : IntKind.i64.wrap ((many : Int) * 32) = (many : Int) * 32 := IntWalk.i64_in _ (by omega)
  have i2 : (0 : Int) ≤ (many : Int) * 32 := by omega
  have i3 : (many : Int) * 32 ≤ 256 := by omega
  have i4 : ((many : Int) * 32).toNat = many * 32 := by omega
  go_enter Try.func78, Try.ntmps78
  go_wp2_with fail
  go_still_tail 9, (by kernel_rfl)
  change wpList _ _ _ _ _ w.drew
  go_wp2_with (refine wpList_copied _ (o := ⟨some 15, _, _, _, _, _⟩) rfl (.tmp 10) (.tmp 14) 24 24 rfl _ _ rfl rfl HR.out ?_)
  go_end0
  exact ⟨rfl, rfl⟩
end Go.Proofs.Ytkdphgcbecldbaa
