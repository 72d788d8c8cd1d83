/- The disk: first, of two errors. -/
import Derived.Test.YtkdphgcbecldbaaDevA
import Derived.BigQuiet
import Derived.Deep.QuietTactic
namespace Go.Proofs.Ytkdphgcbecldbaa
open Go.RowKit
set_option maxHeartbeats 400000 in
theorem bad_any (e : De) (w : World) : Calls Try.prog 77 #[e.v] w fun r w' => r = .returned (.bool e.bad) ∧ w = w' := by
  cases e with
  | ok =>
    go_enter Try.func77, Try.ntmps77
    simp only [De.v]
    go_wp2_with fail
    go_ret
    exact ⟨rfl, rfl⟩
  | cd c =>
    go_enter Try.func77, Try.ntmps77
    simp only [De.v]
    go_wp2_with fail
    go_ret
    exact ⟨rfl, rfl⟩
  | at_ n c =>
    go_enter Try.func77, Try.ntmps77
    simp only [De.v]
    go_wp2_with fail
    go_ret
    exact ⟨rfl, rfl⟩
set_option maxRecDepth 100000 in
set_option maxHeartbeats 1000000 in
theorem index2_any (g : Nat) (e1 e2 : De) (w : World) (h0 : w.cell? ⟨g, 0, none⟩ = some e1.v) (h1 : w.cell? ⟨g, 1, none⟩ = some e2.v) :
    Calls Try.prog 76 #[.slice (some ⟨g, 0, none⟩) 2 2, .func (.func 77) #[] #[]] w fun r w' => r = .returned (.int .i64 (if e1.bad then 0 else if e2.bad then 1 else -1)) ∧ w = w' := by
  cases hb1 : e1.bad with
  | true =>
    go_enter Try.func76, Try.ntmps76
    go_wp2_with fail
    refine wp_loop_rounds 3 ?_
    rw [rounds_succ]
    go_wp2_with fail
    refine (bad_any e1 _).mono ?_
    rintro e w1 ⟨rfl, rfl⟩
    rw [hb1]
    go_wp2_with fail
    go_ret
    exact ⟨rfl, rfl⟩
  | false =>
    cases hb2 : e2.bad with
    | true =>
      go_enter Try.func76, Try.ntmps76
      go_wp2_with fail
      refine wp_loop_rounds 3 ?_
      rw [rounds_succ]
      go_wp2_with fail
      refine (bad_any e1 _).mono ?_
      rintro e w1 ⟨rfl, rfl⟩
      rw [hb1]
      go_wp2_with fail
      rw [rounds_succ]
      go_wp2_with fail
      refine (bad_any e2 _).mono ?_
      rintro e w1 ⟨rfl, rfl⟩
      rw [hb2]
      go_wp2_with fail
      go_ret
      exact ⟨rfl, rfl⟩
    | false =>
      go_enter Try.func76, Try.ntmps76
      go_wp2_with fail
      refine wp_loop_rounds 3 ?_
      rw [rounds_succ]
      go_wp2_with fail
      refine (bad_any e1 _).mono ?_
      rintro e w1 ⟨rfl, rfl⟩
      rw [hb1]
      go_wp2_with fail
      rw [rounds_succ]
      go_wp2_with fail
      refine (bad_any e2 _).mono ?_
      rintro e w1 ⟨rfl, rfl⟩
      rw [hb2]
      go_wp2_with fail
      rw [rounds_succ]
      go_wp2_with fail
      go_ret
      exact ⟨rfl, rfl⟩
def De.or (e1 e2 : De) : De := if e1.bad then e1 else e2
theorem De.v_ok {e : De} (h : e.bad = false) : e = .ok := by cases e <;> first | rfl | cases h
set_option maxRecDepth 100000 in
set_option maxHeartbeats 1000000 in
/-- the first error of two -/
theorem first2_any (g : Nat) (e1 e2 : De) (w : World) (h0 : w.cell? ⟨g, 0, none⟩ = some e1.v) (h1 : w.cell? ⟨g, 1, none⟩ = some e2.v) :
    Calls Try.prog 52 #[.slice (some ⟨g, 0, none⟩) 2 2] w fun r w' => r = .returned (e1.or e2).v ∧ w = w' := by
  have hi := index2_any g e1 e2 w h0 h1
  cases hb1 : e1.bad with
  | true =>
    have ho : e1.or e2 = e1 := by simp [De.or, hb1]
    have HO := Lib.hid ho
    have HI := Lib.hid hi
    clear ho hi
    go_enter Try.func52, Try.ntmps52
    go_wp2_with fail
    refine HI.out.mono ?_
    rintro e w1 ⟨rfl, rfl⟩
    rw [if_pos hb1]
    go_wp2_with fail
    go_ret
    exact ⟨by rw [HO.out]; rfl, rfl⟩
  | false =>
    have ho : e1.or e2 = e2 := by simp [De.or, hb1]
    have HO := Lib.hid ho
    have HI := Lib.hid hi
    clear ho hi
    cases hb2 : e2.bad with
    | true =>
      go_enter Try.func52, Try.ntmps52
      go_wp2_with fail
      refine HI.out.mono ?_
      rintro e w1 ⟨rfl, rfl⟩
      rw [if_neg (by simp [hb1]), if_pos hb2]
      go_wp2_with fail
      go_ret
      exact ⟨by rw [HO.out]; rfl, rfl⟩
    | false =>
      go_enter Try.func52, Try.ntmps52
      go_wp2_with fail
      refine HI.out.mono ?_
      rintro e w1 ⟨rfl, rfl⟩
      rw [if_neg (by simp [hb1]), if_neg (by simp [hb2])]
      go_wp2_with fail
      go_ret
      exact ⟨by rw [HO.out, De.v_ok hb2]; rfl, rfl⟩
end Go.Proofs.Ytkdphgcbecldbaa
