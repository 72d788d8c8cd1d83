/- The disk: errors; up, there, first, told. -/
import Derived.Test.YtkdphgcbecldbaaErrs
import Derived.Test.YtkdphgcbecldbaaMixE
namespace Go.Proofs.Ytkdphgcbecldbaa
open Go.RowKit

/-- an error of the disk: none; a number; a number at a block -/
inductive De where
  | ok : De
  | cd : Int → De
  | at_ : Int → Int → De
def De.v : De → Value
  | .ok => .nilIface
  | .cd c => .iface 89 (.int .i64 c)
  | .at_ n c => .iface 91 (.agg #[.int .i64 n, .iface 89 (.int .i64 c)])
def De.num : De → Int
  | .ok => 0
  | .cd c => c
  | .at_ _ c => c
def De.bad : De → Bool
  | .ok => false
  | _ => true

set_option maxRecDepth 100000 in
set_option maxHeartbeats 400000 in
theorem told_ok (w : World) : Calls Try.prog 56 #[.nilIface] w fun e w' => e = .returned (.int .i64 0) ∧ Gr w w' := by
  go_enter Try.func56, Try.ntmps56
  go_wp2_with fail
  have hg := Gr.at_alloc w (.cells #[.int .i64 1, .int .i64 11, .int .i64 2, .int .i64 16] 27)
  have HG := Lib.hid hg
  clear hg
  refine wp_loop_rounds 5 ?_
  rw [rounds_succ]
  go_wp2_with fail
  refine (is_dev_nil _ _).mono ?_
  rintro e w1 ⟨rfl, rfl⟩
  go_wp2_with fail
  rw [rounds_succ]
  go_wp2_with fail
  refine (is_dev_nil _ _).mono ?_
  rintro e w1 ⟨rfl, rfl⟩
  go_wp2_with fail
  rw [rounds_succ]
  go_wp2_with fail
  refine (is_dev_nil _ _).mono ?_
  rintro e w1 ⟨rfl, rfl⟩
  go_wp2_with fail
  rw [rounds_succ]
  go_wp2_with fail
  refine (is_dev_nil _ _).mono ?_
  rintro e w1 ⟨rfl, rfl⟩
  go_wp2_with fail
  rw [rounds_succ]
  go_wp2_with fail
  go_ret
  exact ⟨rfl, HG.out⟩

set_option maxRecDepth 100000 in
set_option maxHeartbeats 1000000 in
theorem told_by (ev : Value) (c : Int) (w : World) (hc : c = 1 ∨ c = 11 ∨ c = 2 ∨ c = 16)
    (hE : ∀ (x : Int) (W : World), Calls Try.prog 44 #[ev, .iface 89 (.int .i64 x)] W fun e W' => e = .returned (.bool (c == x)) ∧ Gr W W') :
    Calls Try.prog 56 #[ev] w fun e w' => e = .returned (.int .i64 c) ∧ Gr w w' := by
  have HE := Lib.hid hE
  clear hE
  go_enter Try.func56, Try.ntmps56
  go_wp2_with fail
  have hg := Gr.at_alloc w (.cells #[.int .i64 1, .int .i64 11, .int .i64 2, .int .i64 16] 27)
  have HG := Lib.hid hg
  have hb := heap_alloc_new w (.cells #[.int .i64 1, .int .i64 11, .int .i64 2, .int .i64 16] 27)
  have hlt : w.heap.size < (w.alloc (.cells #[.int .i64 1, .int .i64 11, .int .i64 2, .int .i64 16] 27)).heap.size := by rw [World.size_alloc]; omega
  clear hg
  generalize w.alloc (.cells #[.int .i64 1, .int .i64 11, .int .i64 2, .int .i64 16] 27) = W0 at *
  have HB := Lib.hid hb
  clear hb
  generalize hge : w.heap.size = g at *
  clear hge
  have hcell : ∀ W1, Gr W0 W1 → ∀ i v, (#[.int .i64 1, .int .i64 11, .int .i64 2, .int .i64 16] : Array Value)[i]? = some v → W1.cell? ⟨g, i, none⟩ = some v := fun W1 h i v hv => by
    rw [Below.cell h hlt, cell_of_row W0 g i _ _ _ HB.out, hv]
  have HC := Lib.hid hcell
  clear hcell
  have hgr := Gr.refl W0
  have hc0 := HC.out _ hgr 0 _ rfl
  have hgr0 := Lib.hid hgr
  clear hgr
  rcases hc with rfl | rfl | rfl | rfl
  all_goals (
    refine wp_loop_rounds 5 ?_
    rw [rounds_succ]
    go_wp2_with fail
    refine (HE.out 1 _).mono ?_
    rintro e w1 ⟨rfl, hb⟩
    have hgr1 := Lib.hid (Gr.step hb hgr0.out)
    have hc1 := HC.out _ hgr1.out 1 _ rfl
    clear hb hc0)
  · go_wp2_with fail
    go_ret
    exact ⟨rfl, Gr.step hgr1.out HG.out⟩
  all_goals (
    go_wp2_with fail
    rw [rounds_succ]
    go_wp2_with fail
    refine (HE.out 11 _).mono ?_
    rintro e w2 ⟨rfl, hb⟩
    have hgr2 := Lib.hid (Gr.step hb hgr1.out)
    have hc2 := HC.out _ hgr2.out 2 _ rfl
    clear hb hc1)
  · go_wp2_with fail
    go_ret
    exact ⟨rfl, Gr.step hgr2.out HG.out⟩
  all_goals (
    go_wp2_with fail
    rw [rounds_succ]
    go_wp2_with fail
    refine (HE.out 2 _).mono ?_
    rintro e w3 ⟨rfl, hb⟩
    have hgr3 := Lib.hid (Gr.step hb hgr2.out)
    have hc3 := HC.out _ hgr3.out 3 _ rfl
    clear hb hc2)
  · go_wp2_with fail
    go_ret
    exact ⟨rfl, Gr.step hgr3.out HG.out⟩
  all_goals (
    go_wp2_with fail
    rw [rounds_succ]
    go_wp2_with fail
    refine (HE.out 16 _).mono ?_
    rintro e w4 ⟨rfl, hb⟩
    have hgr4 := Lib.hid (Gr.step hb hgr3.out)
    clear hb hc3
    go_wp2_with fail
    go_ret
    exact ⟨rfl, Gr.step hgr4.out HG.out⟩)
def De.fair : De → Prop
  | .ok => True
  | .cd c => c = 1 ∨ c = 11 ∨ c = 2 ∨ c = 16
  | .at_ _ c => c = 1 ∨ c = 11 ∨ c = 2 ∨ c = 16
/-- the number of an error -/
theorem told_any (e : De) (he : e.fair) (w : World) : Calls Try.prog 56 #[e.v] w fun r w' => r = .returned (.int .i64 e.num) ∧ Gr w w' := by
  cases e with
  | ok => exact told_ok w
  | cd c => exact told_by _ c w he fun x W => (is_dev_code c x W).mono fun e W' ⟨h1, h2⟩ => ⟨h1, h2 ▸ Gr.refl _⟩
  | at_ n c => exact told_by _ c w he fun x W => is_dev_at n c x W
end Go.Proofs.Ytkdphgcbecldbaa
