/- Two blocks: are they one? -/
import Derived.Test.YtkdphgcbecldbaaDevP
import Derived.ChangeKeysEq
namespace Go.Proofs.Ytkdphgcbecldbaa
open Go.RowKit
theorem cellsOf5 : Try.prog.cellsOf 5 = 1 := by kernel_rfl
theorem part5 (w : World) (l : List Nat) (i : Nat) (hi : i < l.length) : (Go.part 5 (bvs l).toArray i).run Try.prog w = .ok (.int .u8 ((l.getD i 0 : Nat) : Int)) w := by
  have hagg : (isAgg 5).run Try.prog w = .ok false w := by
    unfold isAgg
    rw [Sem.run_bind, run_underlying Try.underlying5 w]
    rfl
  unfold Go.part
  rw [Sem.run_bind, hagg]
  have hc : (bvs l).toArray[i]? = some (.int .u8 ((l.getD i 0 : Nat) : Int)) := by
    rw [List.getElem?_toArray]
    have hl : i < (bvs l).length := by rw [bvs_len]; exact hi
    rw [List.getElem?_eq_getElem hl]
    exact congrArg some (bvs_at (List.getElem?_eq_getElem hl)).2
  simp only [Result.andThen_ok, hc]
  rfl
theorem eq_items (w : World) (d : Nat) (a b : List Nat) (ha : a.length = 256) (hb : b.length = 256) : ∀ is : List Nat, (∀ i, i ∈ is → i < 256) →
    (Op.eqItems (d + 1) 5 (Try.prog.cellsOf 5) (bvs a).toArray (bvs b).toArray is).run Try.prog w = .ok (is.all fun i => a.getD i 0 == b.getD i 0) w
  | [], _ => by simp [Op.eqItems]
  | i :: is, h => by
    have hi : i < 256 := h i (List.mem_cons_self ..)
    have e1 := part5 w a i (by omega)
    have e2 := part5 w b i (by omega)
    have e3 : (Op.equalIn (d + 1) 5 (.int .u8 ((a.getD i 0 : Nat) : Int)) (.int .u8 ((b.getD i 0 : Nat) : Int))).run Try.prog w = .ok (((a.getD i 0 : Nat) : Int) == ((b.getD i 0 : Nat) : Int)) w := run_equalIn_int (P := Try.prog) w d 5 .u8 .u8 _ _ Try.underlying5
    have ih := eq_items w d a b ha hb is (fun j hj => h j (List.mem_cons_of_mem _ hj))
    simp only [cellsOf5] at ih ⊢
    simp only [Op.eqItems, Sem.run_bind, Nat.mul_one, e1, e2, e3, Result.andThen_ok]
    rw [List.all_cons]
    by_cases hx : a.getD i 0 = b.getD i 0
    · rw [hx]
      simpa using ih
    · have hx1 : (a.getD i 0 == b.getD i 0) = false := by simpa using hx
      have hx2 : (((a.getD i 0 : Nat) : Int) == ((b.getD i 0 : Nat) : Int)) = false := by
        rw [beq_eq_false_iff_ne]
        intro h
        exact hx (by omega)
      rw [hx1, hx2]
      rfl
theorem all_getD {a b : List Nat} (ha : a.length = 256) (hb : b.length = 256) : ((List.range 256).all fun i => a.getD i 0 == b.getD i 0) = decide (a = b) := by
  by_cases h : a = b
  · subst h
    rw [decide_eq_true rfl, List.all_eq_true]
    intro i _
    exact beq_self_eq_true _
  · rw [decide_eq_false h, List.all_eq_false]
    refine Classical.byContradiction fun hn => h ?_
    apply List.ext_getElem (by omega)
    intro i h1 h2
    refine Classical.byContradiction fun hne => hn ⟨i, List.mem_range.2 (by omega), ?_⟩
    intro he
    rw [beq_iff_eq, List.getD_eq_getElem?_getD, List.getD_eq_getElem?_getD, List.getElem?_eq_getElem h1, List.getElem?_eq_getElem h2] at he
    exact hne he
theorem eql93 (w : World) (a b : List Nat) (ha : a.length = 256) (hb : b.length = 256) : (Op.equalIn 10000 93 (.agg (bvs a).toArray) (.agg (bvs b).toArray)).run Try.prog w = .ok (decide (a = b)) w := by
  obtain ⟨i5, hi, hz, hs, hby⟩ := info_parts info5
  rw [show 10000 = 9999 + 1 from rfl, run_equalIn_array (P := Try.prog) w 9999 _ _ Try.underlying93 hi]
  rw [show 9999 = 9998 + 1 from rfl, eq_items w 9998 a b ha hb _ (fun i hi => List.mem_range.1 hi), all_getD ha hb]
end Go.Proofs.Ytkdphgcbecldbaa
