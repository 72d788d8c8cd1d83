/- Rows of many cells, as the walk shall see them. -/
import Derived.Test.YtkdphgcbecldbaaDevF
import Derived.Great.BuildSlice
namespace Go.Proofs.Ytkdphgcbecldbaa
open Go.RowKit
/-- a load of a whole row, as the walk shall see it -/
noncomputable def ldv (t : TypeId) (v : Value) (w : World) : Result Value := (Instr.loadAt t v).run Try.prog w
noncomputable def stv (t : TypeId) (p v : Value) (w : World) : Result Unit := (Instr.storeAt t p v).run Try.prog w
noncomputable def bsv (t : TypeId) (n : Nat) (ps : Array (Nat × Value)) (w : World) : Result Value := (Instr.buildSlice t n ps).run Try.prog w
theorem wp_ld95 {dst : Option Tmp} {x : Operand} {ty : TypeId} {pos : String} {af} {gd} {a : Act} {w : World} {K Q} :
    Oper.wp Try.prog ⟨dst, .load 95 x, ty, pos, af, gd⟩ a w K Q = Oper.upon Try.prog ⟨dst, .load 95 x, ty, pos, af, gd⟩ a K Q ((ldv 95 (a.eval x) w).andThen fun v w' => .ok (.value v) w') := by
  unfold Oper.wp ldv
  simp only [execOp, Sem.run_bind]
  rfl
theorem wp_st95 {dst : Option Tmp} {x y : Operand} {ty : TypeId} {pos : String} {af} {gd} {a : Act} {w : World} {K Q} :
    Oper.wp Try.prog ⟨dst, .store 95 x y, ty, pos, af, gd⟩ a w K Q = Oper.upon Try.prog ⟨dst, .store 95 x y, ty, pos, af, gd⟩ a K Q ((stv 95 (a.eval x) (a.eval y) w).andThen fun _ w' => .ok .skip w') := by
  unfold Oper.wp stv
  simp only [execOp, Sem.run_bind]
  rfl
theorem wp_bs83 {dst : Option Tmp} {n : Nat} {x : Operand} {ty : TypeId} {pos : String} {af} {gd} {a : Act} {w : World} {K Q} :
    Oper.wp Try.prog ⟨dst, .buildSlice 83 n #[(0, x)], ty, pos, af, gd⟩ a w K Q = Oper.upon Try.prog ⟨dst, .buildSlice 83 n #[(0, x)], ty, pos, af, gd⟩ a K Q ((bsv 83 n #[(0, a.eval x)] w).andThen fun v w' => .ok (.value v) w') := by
  unfold Oper.wp bsv
  simp only [execOp, Sem.run_bind, List.map_toArray, List.map_cons, List.map_nil]
  rfl
theorem wp_ld93 {dst : Option Tmp} {x : Operand} {ty : TypeId} {pos : String} {af} {gd} {a : Act} {w : World} {K Q} :
    Oper.wp Try.prog ⟨dst, .load 93 x, ty, pos, af, gd⟩ a w K Q = Oper.upon Try.prog ⟨dst, .load 93 x, ty, pos, af, gd⟩ a K Q ((ldv 93 (a.eval x) w).andThen fun v w' => .ok (.value v) w') := by
  unfold Oper.wp ldv
  simp only [execOp, Sem.run_bind]
  rfl
theorem wp_st93 {dst : Option Tmp} {x y : Operand} {ty : TypeId} {pos : String} {af} {gd} {a : Act} {w : World} {K Q} :
    Oper.wp Try.prog ⟨dst, .store 93 x y, ty, pos, af, gd⟩ a w K Q = Oper.upon Try.prog ⟨dst, .store 93 x y, ty, pos, af, gd⟩ a K Q ((stv 93 (a.eval x) (a.eval y) w).andThen fun _ w' => .ok .skip w') := by
  unfold Oper.wp stv
  simp only [execOp, Sem.run_bind]
  rfl
theorem sz95 : (Try.prog.info? 95).map (·.size) = some 257 := by kernel_rfl
theorem sz93 : (Try.prog.info? 93).map (·.size) = some 256 := by kernel_rfl
theorem ldv95 {w : World} {b o : Nat} {cs : List Value} (h : w.rangeAt b o cs) (hl : cs.length = 257) : ldv 95 (.pointer (some ⟨b, o, none⟩)) w = .ok (.agg cs.toArray) w :=
  run_loadAt_mid w b o 95 cs _ h Try.underlying95 rfl (by rw [hl]; exact sz95)
theorem ldv93 {w : World} {b o : Nat} {cs : List Value} (h : w.rangeAt b o cs) (hl : cs.length = 256) : ldv 93 (.pointer (some ⟨b, o, none⟩)) w = .ok (.agg cs.toArray) w :=
  run_loadAt_mid w b o 93 cs _ h Try.underlying93 rfl (by rw [hl]; exact sz93)
theorem stv95 {w : World} {b o : Nat} {cells : Array Value} (h : w.there b o 257) (hl : cells.size = 257) (h1 : cells.all (·.oneCell') = true) : stv 95 (.pointer (some ⟨b, o, none⟩)) (.agg cells) w = .ok () (w.setCells b o cells.toList) :=
  run_storeAt_mid w b o 95 cells (by rw [hl]; exact h) (by rw [hl]; exact sz95) h1
theorem stv93 {w : World} {b o : Nat} {cells : Array Value} (h : w.there b o 256) (hl : cells.size = 256) (h1 : cells.all (·.oneCell') = true) : stv 93 (.pointer (some ⟨b, o, none⟩)) (.agg cells) w = .ok () (w.setCells b o cells.toList) :=
  run_storeAt_mid w b o 93 cells (by rw [hl]; exact h) (by rw [hl]; exact sz93) h1
theorem zs95 : Try.zeroCells95.size = 257 := by rw [z95]; unfold Zb; rw [Array.size_append, Array.size_replicate]; rfl
theorem stv95_new (w : World) (cells : Array Value) (hl : cells.size = 257) (h1 : cells.all (·.oneCell') = true) : stv 95 (.pointer (some ⟨w.heap.size, 0, none⟩)) (.agg cells) (w.alloc (.cells Try.zeroCells95 95)) = .ok () (w.alloc (.cells cells 95)) :=
  run_storeAt_new w 95 _ cells (by rw [hl]; exact sz95) (by rw [hl]; exact zs95) h1
theorem bsv83 (w : World) (X : Array Value) (hX : X.size = 257) : bsv 83 1 #[(0, .agg X)] w = .ok (.slice (some ⟨w.heap.size, 0, none⟩) 1 1) (w.alloc (.cells X 95)) := by
  obtain ⟨i0, hi0, hz0, hz1, hz2⟩ := info_parts info95
  refine run_buildSlice (P := Try.prog) w 83 95 1 _ X i0 _ Try.underlying83 hi0 hz0 (by rw [hz1]; decide) (by rw [hz1]; decide) ?_
  rw [hz1]
  exact fill_one X _ 257 hX (by rw [Array.size_map, Array.size_range])
end Go.Proofs.Ytkdphgcbecldbaa
