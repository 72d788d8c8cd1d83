/- Texts of the proof, one behind the other: MixE, DevA, DevB, KitA. -/
import Derived.Test.YtkdphgcbecldbaaJb
import Derived.Deep.RegionHeld3
import Derived.Lib.SlBytesConst
import Derived.Test.YtkdphgcbecldbaaJa
import Derived.BigQuiet
import Derived.Deep.QuietTactic
import Derived.Test.YtkdphgcbecldbaaRows
/- Walk of limpetlaw01's awake: the chapter's examples. -/
namespace Go.Proofs.Ytkdphgcbecldbaa
open Go.RowKit MixM

/-- the world has grown -/
def Gr (w w' : World) : Prop := Below w.heap.size w w'
theorem Gr.refl (w : World) : Gr w w := Below.refl _ _
theorem Gr.drew (w : World) : Gr w w.drew := (Below.refl _ _).drew
theorem Gr.step {a b c : World} (h : Gr b c) (k : Gr a b) : Gr a c := Below.trans k (Below.mono h k.size)
theorem Gr.alloc {a b : World} (k : Gr a b) (o : Obj) : Gr a (b.alloc o) := Below.alloc k k.size o
theorem Gr.at_alloc (b : World) (o : Obj) : Gr b (b.alloc o) := (Gr.refl b).alloc o

theorem sum_nil (w : World) : Calls Try.prog 16 #[.slice none 0 0] w fun e w' => e = .returned (.int .u32 0) ∧ Gr w w' := by
  have h := sum_any none 0 0 [] [] w ⟨rfl, rfl, ⟨Nat.le_refl _, by simp, fun h => absurd h (by simp)⟩, fun i hi => absurd hi (by simp)⟩
  exact h
theorem sum_at {w : World} {g n c B : Nat} {A : Option Addr} {l : List Nat} {T : TypeId} {s : Int} (hg : w.heap[g]? = some (.cells #[.slice A n c] T (0, 0))) (h : Bs w B ⟨A, n, c⟩ l) (hB : B ≤ w.heap.size) (hs : ((sum l : Nat) : Int) = s) :
    Calls Try.prog 16 #[.slice (some ⟨g, 0, none⟩) 1 1] w fun e w' => e = .returned (.int .u32 s) ∧ Gr w w' := by
  have hlt : g < w.heap.size := by
    rcases Nat.lt_or_ge g w.heap.size with hlt | hge
    · exact hlt
    · rw [Array.getElem?_eq_none hge] at hg; cases hg
  have h1 := sum_any (some ⟨g, 0, none⟩) 1 1 [⟨A, n, c⟩] [l] w ⟨rfl, rfl, ⟨Nat.le_refl _, by simp, fun _ => ⟨g, 0, rfl, hlt, fun i hi => by
    obtain rfl : i = 0 := by simp only at hi; omega
    exact cell_of_row w g 0 _ _ _ hg⟩⟩, fun i hi => by
    obtain rfl : i = 0 := by simp only at hi; omega
    exact h.more hB⟩
  rw [List.flatten_singleton, hs] at h1
  exact h1
def digits : List Nat := [49, 50, 51, 52, 53, 54, 55, 56, 57]
theorem sum_digits : ((sum digits : Nat) : Int) = 3808858755 := by decide +kernel
theorem sum_d4 : ((sum (digits.take 4) : Nat) : Int) = 4131058926 := by decide +kernel
theorem sum_d5 : ((sum (digits.drop 4) : Nat) : Int) = 2209703384 := by decide +kernel
theorem sum_zeros : ((sum (List.replicate 32 0) : Nat) : Int) = 2324772522 := by decide +kernel
theorem join_digits (w : World) : Calls Try.prog 18 #[.int .u32 4131058926, .int .u32 2209703384, .int .i64 5] w fun e w' => e = .returned (.int .u32 3808858755) ∧ w = w' := by
  have h := join_any 4131058926 2209703384 5 w (by decide) (by decide) (by decide) (by decide)
  have e : ((shN (8 * 5) 4131058926 ^^^ 2209703384 : Nat) : Int) = 3808858755 := by decide +kernel
  rw [e] at h
  exact h

/-- the block of the digits -/
def DigitsAt (w : World) (g : Nat) : Prop := ∀ i, i < 9 → w.cell? ⟨g, i, none⟩ = some (.int .u8 ((digits.getD i 0 : Nat) : Int))
theorem DigitsAt.bs {w : World} {g : Nat} (h : DigitsAt w g) (hg : g < w.heap.size) : Bs w w.heap.size ⟨some ⟨g, 0, none⟩, 9, 9⟩ digits :=
  ⟨rfl, by intro x hx; simp [digits] at hx; omega, Nat.le_refl _, by simp only; omega, fun _ => ⟨g, 0, rfl, hg, fun i hi => by rw [Nat.zero_add]; exact h i hi⟩⟩
theorem small_take {l : List Nat} (h : Small l) (k : Nat) : Small (l.take k) := fun x hx => h x (List.mem_of_mem_take hx)
theorem DigitsAt.bs4 {w : World} {g : Nat} (h : DigitsAt w g) (hg : g < w.heap.size) : Bs w w.heap.size ⟨some ⟨g, 0, none⟩, 4, 9⟩ (digits.take 4) :=
  ⟨rfl, small_take (h.bs hg).2.1 4, by simp only; omega, by simp only; omega, fun _ => ⟨g, 0, rfl, hg, fun i hi => by
    simp only at hi
    rw [Nat.zero_add, h i (by omega)]
    simp only [bv, List.getD_eq_getElem?_getD, List.getElem?_take, if_pos hi]⟩⟩
theorem DigitsAt.bs5 {w : World} {g : Nat} (h : DigitsAt w g) (hg : g < w.heap.size) : Bs w w.heap.size ⟨some ⟨g, 4, none⟩, 5, 5⟩ (digits.drop 4) :=
  (h.bs hg).cut 4 (by simp only; omega)
theorem DigitsAt.gr {w w' : World} {g : Nat} (h : DigitsAt w g) (hb : Gr w w') (hg : g < w.heap.size) : DigitsAt w' g := fun i hi => (Below.cell hb hg).trans (h i hi)

theorem digits_new (w : World) : DigitsAt (w.alloc (.cells #[.int .u8 49, .int .u8 50, .int .u8 51, .int .u8 52, .int .u8 53, .int .u8 54, .int .u8 55, .int .u8 56, .int .u8 57] 5 (9, 10))) w.heap.size := by
  intro i hi
  rw [cell_of_row _ w.heap.size i _ _ _ (heap_alloc_new w _)]
  match i, hi with
  | 0, _ | 1, _ | 2, _ | 3, _ | 4, _ | 5, _ | 6, _ | 7, _ | 8, _ => rfl
theorem gr_size {a b : World} (h : Gr a b) : a.heap.size ≤ b.heap.size := Below.size h
theorem bs_gr {w w' : World} {B : Nat} {s : Sl} {l : List Nat} (h : Bs w B s l) (hb : Gr w w') (hB : B ≤ w.heap.size) : Bs w' B s l := h.below hb hB
theorem heap_alloc_at {w : World} {o : Obj} {g : Nat} (e : g = w.heap.size) : (w.alloc o).heap[g]? = some o := by subst e; exact heap_alloc_new w o
theorem heap_alloc_under {w : World} {o o' : Obj} {g : Nat} (e : g = w.heap.size) : ((w.alloc o).alloc o').heap[g]? = some o := by
  subst e
  rw [Below.heap_alloc _ _ _ (by rw [World.size_alloc]; omega)]
  exact heap_alloc_new w o
theorem heap_gr_new {w w' : World} {o : Obj} {g : Nat} (h : Gr (w.alloc o) w') (e : g = w.heap.size) : w'.heap[g]? = some o := by
  rw [Below.block h g (by rw [World.size_alloc]; omega)]
  exact heap_alloc_at e
theorem heap_gr_under {w w' : World} {o o' : Obj} {g : Nat} (h : Gr ((w.alloc o).alloc o') w') (e : g = w.heap.size) : w'.heap[g]? = some o := by
  rw [Below.block h g (by rw [World.size_alloc, World.size_alloc]; omega)]
  exact heap_alloc_under e
theorem fits_0 {w : World} {B : Nat} {A : Option Addr} {n c : Nat} (h : Bs w B ⟨A, n, c⟩ digits) (hB : B ≤ w.heap.size) : Calls Try.prog 13 #[.slice A n c, .int .u32 0] w fun e w' => e = .returned (.int .i64 5) ∧ Gr w w' := by
  have h1 := fits_no A n c digits 0 B w h hB (by decide +kernel)
  exact h1
theorem fits_d {w : World} {B : Nat} {A : Option Addr} {n c : Nat} (h : Bs w B ⟨A, n, c⟩ digits) (hB : B ≤ w.heap.size) : Calls Try.prog 13 #[.slice A n c, .int .u32 3808858755] w fun e w' => e = .returned (.int .i64 0) ∧ Gr w w' := by
  have h1 := fits_yes A n c digits 3808858755 B w h hB (by decide +kernel)
  exact h1
def Z32 : Array Value := Array.replicate 32 (.int .u8 0)
theorem make32 (w : World) : (Instr.makeSlice 24 (.int .i64 32) (.int .i64 32)).run Try.prog w = .ok (.slice (some ⟨w.heap.size, 0, none⟩) 32 32) (w.alloc (.cells Z32 5)) := by kernel_rfl
theorem zeros_bs (w : World) (o : Obj) : Bs ((w.alloc (.cells Z32 5)).alloc o) (w.heap.size + 1) ⟨some ⟨w.heap.size, 0, none⟩, 32, 32⟩ (List.replicate 32 0) := by
  have h0 : Bs (w.alloc (.cells Z32 5)) (w.heap.size + 1) ⟨some ⟨w.heap.size, 0, none⟩, 32, 32⟩ (List.replicate 32 0) := by
    refine ⟨rfl, fun x hx => by rw [(List.mem_replicate.1 hx).2]; decide, Nat.le_refl _, by simp only; omega, fun _ => ⟨w.heap.size, 0, rfl, by omega, fun i hi => ?_⟩⟩
    simp only at hi
    rw [cell_of_row _ w.heap.size (0 + i) _ _ _ (heap_alloc_new w _), Nat.zero_add]
    simp only [Z32, bv, Array.getElem?_replicate, if_pos hi, List.getD_eq_getElem?_getD, List.getElem?_replicate, Option.getD_some]
    rfl
  exact h0.below (Gr.at_alloc _ o) (by rw [World.size_alloc]; exact Nat.le_refl _)
theorem size_two (w : World) (o1 o2 : Obj) : w.heap.size + 1 ≤ ((w.alloc o1).alloc o2).heap.size := by rw [World.size_alloc, World.size_alloc]; omega
set_option maxRecDepth 100000 in
set_option maxHeartbeats 2000000 in
theorem awake1 (w : World) : Calls Try.prog 11 #[] w fun e w' => e = .returned (.bool true) ∧ Gr w w' := by
  have kc := fun (w : World) (C : Array Value) (n c : Nat) => Lib.run_convert_bytes_const (P := Try.prog) w 24 5 C n c Try.underlying24 Try.underlying5
  go_enter Try.func11, Try.ntmps11
  go_wp2_with fail
  have hd := digits_new w
  have hg1 := Gr.at_alloc w (.cells #[.int .u8 49, .int .u8 50, .int .u8 51, .int .u8 52, .int .u8 53, .int .u8 54, .int .u8 55, .int .u8 56, .int .u8 57] 5 (9, 10))
  have hlt : w.heap.size < (w.alloc (.cells #[.int .u8 49, .int .u8 50, .int .u8 51, .int .u8 52, .int .u8 53, .int .u8 54, .int .u8 55, .int .u8 56, .int .u8 57] 5 (9, 10))).heap.size := by rw [World.size_alloc]; omega
  generalize w.alloc (.cells #[.int .u8 49, .int .u8 50, .int .u8 51, .int .u8 52, .int .u8 53, .int .u8 54, .int .u8 55, .int .u8 56, .int .u8 57] 5 (9, 10)) = W0 at *
  have HD9 := Lib.hid (hd.bs hlt)
  have HD4 := Lib.hid (hd.bs4 hlt)
  have HD5 := Lib.hid (hd.bs5 hlt)
  have HG1 := Lib.hid hg1
  clear hd hg1
  generalize w.heap.size = g at *
  clear kc
  have hmk := make32
  go_region_held3 (fun w' => Gr W0 w') (first | assumption | exact Gr.drew _ | exact Gr.alloc (by assumption) _ | exact Gr.step (by assumption) (by assumption))
    (first
     | (go_at_call 16; (with_reducible refine (sum_nil _).mono ?_); rintro e w' ⟨rfl, hb'⟩)
     | (go_at_call 16; (with_reducible refine (sum_at (heap_alloc_new _ _) (bs_gr HD9.out (by assumption) (Nat.le_refl _)) (gr_size (by assumption)) sum_digits).mono ?_); rintro e w' ⟨rfl, hb'⟩)
     | (go_at_call 16; (with_reducible refine (sum_at (heap_alloc_at (by simp)) (zeros_bs _ _) (size_two _ _ _) sum_zeros).mono ?_); rintro e w' ⟨rfl, hb'⟩)
     | (go_at_call 16; (with_reducible refine (sum_at (by first | exact heap_alloc_new _ _ | exact heap_alloc_at (by simp) | exact heap_alloc_under (by simp)) (bs_gr HD4.out (by assumption) (Nat.le_refl _)) (gr_size (by assumption)) sum_d4).mono ?_); rintro e w' ⟨rfl, hb'⟩)
     | (go_at_call 16; (with_reducible refine (sum_at (by first | exact heap_alloc_new _ _ | exact heap_alloc_at (by simp) | exact heap_alloc_under (by simp) | exact heap_gr_new (by assumption) (by simp) | exact heap_gr_under (by assumption) (by simp)) (bs_gr HD5.out (by assumption) (Nat.le_refl _)) (gr_size (by assumption)) sum_d5).mono ?_); rintro e w' ⟨rfl, hb'⟩)
     | (go_at_call 18; (with_reducible refine (join_digits _).mono ?_); rintro e w' ⟨rfl, rfl⟩)
     | (go_at_call 13; (with_reducible refine (fits_0 (bs_gr HD9.out (by assumption) (Nat.le_refl _)) (gr_size (by assumption))).mono ?_); rintro e w' ⟨rfl, hb'⟩)
     | (go_at_call 13; (with_reducible refine (fits_d (bs_gr HD9.out (by assumption) (Nat.le_refl _)) (gr_size (by assumption))).mono ?_); rintro e w' ⟨rfl, hb'⟩)
     | fail "no arm")
  all_goals (go_wp2_with fail; go_ret; exact ⟨rfl, Gr.step (by assumption) HG1.out⟩)
end Go.Proofs.Ytkdphgcbecldbaa
/- The disk: errors; up, there, first, told. -/
namespace Go.Proofs.Ytkdphgcbecldbaa
open Go.RowKit

/-- an error of the disk: none; a number; a number at a block -/
inductive De where
  | ok : De
  | cd : Int → De
  | at_ : Int → Int → De
def De.v : De → Value
  | .ok => .nilIface
  | .cd c => .iface 89 (.int .i64 c)
  | .at_ n c => .iface 91 (.agg #[.int .i64 n, .iface 89 (.int .i64 c)])
def De.num : De → Int
  | .ok => 0
  | .cd c => c
  | .at_ _ c => c
def De.bad : De → Bool
  | .ok => false
  | _ => true

set_option maxRecDepth 100000 in
set_option maxHeartbeats 400000 in
theorem told_ok (w : World) : Calls Try.prog 56 #[.nilIface] w fun e w' => e = .returned (.int .i64 0) ∧ Gr w w' := by
  go_enter Try.func56, Try.ntmps56
  go_wp2_with fail
  have hg := Gr.at_alloc w (.cells #[.int .i64 1, .int .i64 11, .int .i64 2, .int .i64 16] 27)
  have HG := Lib.hid hg
  clear hg
  refine wp_loop_rounds 5 ?_
  rw [rounds_succ]
  go_wp2_with fail
  refine (is_dev_nil _ _).mono ?_
  rintro e w1 ⟨rfl, rfl⟩
  go_wp2_with fail
  rw [rounds_succ]
  go_wp2_with fail
  refine (is_dev_nil _ _).mono ?_
  rintro e w1 ⟨rfl, rfl⟩
  go_wp2_with fail
  rw [rounds_succ]
  go_wp2_with fail
  refine (is_dev_nil _ _).mono ?_
  rintro e w1 ⟨rfl, rfl⟩
  go_wp2_with fail
  rw [rounds_succ]
  go_wp2_with fail
  refine (is_dev_nil _ _).mono ?_
  rintro e w1 ⟨rfl, rfl⟩
  go_wp2_with fail
  rw [rounds_succ]
  go_wp2_with fail
  go_ret
  exact ⟨rfl, HG.out⟩

set_option maxRecDepth 100000 in
set_option maxHeartbeats 1000000 in
theorem told_by (ev : Value) (c : Int) (w : World) (hc : c = 1 ∨ c = 11 ∨ c = 2 ∨ c = 16)
    (hE : ∀ (x : Int) (W : World), Calls Try.prog 44 #[ev, .iface 89 (.int .i64 x)] W fun e W' => e = .returned (.bool (c == x)) ∧ Gr W W') :
    Calls Try.prog 56 #[ev] w fun e w' => e = .returned (.int .i64 c) ∧ Gr w w' := by
  have HE := Lib.hid hE
  clear hE
  go_enter Try.func56, Try.ntmps56
  go_wp2_with fail
  have hg := Gr.at_alloc w (.cells #[.int .i64 1, .int .i64 11, .int .i64 2, .int .i64 16] 27)
  have HG := Lib.hid hg
  have hb := heap_alloc_new w (.cells #[.int .i64 1, .int .i64 11, .int .i64 2, .int .i64 16] 27)
  have hlt : w.heap.size < (w.alloc (.cells #[.int .i64 1, .int .i64 11, .int .i64 2, .int .i64 16] 27)).heap.size := by rw [World.size_alloc]; omega
  clear hg
  generalize w.alloc (.cells #[.int .i64 1, .int .i64 11, .int .i64 2, .int .i64 16] 27) = W0 at *
  have HB := Lib.hid hb
  clear hb
  generalize hge : w.heap.size = g at *
  clear hge
  have hcell : ∀ W1, Gr W0 W1 → ∀ i v, (#[.int .i64 1, .int .i64 11, .int .i64 2, .int .i64 16] : Array Value)[i]? = some v → W1.cell? ⟨g, i, none⟩ = some v := fun W1 h i v hv => by
    rw [Below.cell h hlt, cell_of_row W0 g i _ _ _ HB.out, hv]
  have HC := Lib.hid hcell
  clear hcell
  have hgr := Gr.refl W0
  have hc0 := HC.out _ hgr 0 _ rfl
  have hgr0 := Lib.hid hgr
  clear hgr
  rcases hc with rfl | rfl | rfl | rfl
  all_goals (
    refine wp_loop_rounds 5 ?_
    rw [rounds_succ]
    go_wp2_with fail
    refine (HE.out 1 _).mono ?_
    rintro e w1 ⟨rfl, hb⟩
    have hgr1 := Lib.hid (Gr.step hb hgr0.out)
    have hc1 := HC.out _ hgr1.out 1 _ rfl
    clear hb hc0)
  · go_wp2_with fail
    go_ret
    exact ⟨rfl, Gr.step hgr1.out HG.out⟩
  all_goals (
    go_wp2_with fail
    rw [rounds_succ]
    go_wp2_with fail
    refine (HE.out 11 _).mono ?_
    rintro e w2 ⟨rfl, hb⟩
    have hgr2 := Lib.hid (Gr.step hb hgr1.out)
    have hc2 := HC.out _ hgr2.out 2 _ rfl
    clear hb hc1)
  · go_wp2_with fail
    go_ret
    exact ⟨rfl, Gr.step hgr2.out HG.out⟩
  all_goals (
    go_wp2_with fail
    rw [rounds_succ]
    go_wp2_with fail
    refine (HE.out 2 _).mono ?_
    rintro e w3 ⟨rfl, hb⟩
    have hgr3 := Lib.hid (Gr.step hb hgr2.out)
    have hc3 := HC.out _ hgr3.out 3 _ rfl
    clear hb hc2)
  · go_wp2_with fail
    go_ret
    exact ⟨rfl, Gr.step hgr3.out HG.out⟩
  all_goals (
    go_wp2_with fail
    rw [rounds_succ]
    go_wp2_with fail
    refine (HE.out 16 _).mono ?_
    rintro e w4 ⟨rfl, hb⟩
    have hgr4 := Lib.hid (Gr.step hb hgr3.out)
    clear hb hc3
    go_wp2_with fail
    go_ret
    exact ⟨rfl, Gr.step hgr4.out HG.out⟩)
def De.fair : De → Prop
  | .ok => True
  | .cd c => c = 1 ∨ c = 11 ∨ c = 2 ∨ c = 16
  | .at_ _ c => c = 1 ∨ c = 11 ∨ c = 2 ∨ c = 16
/-- the number of an error -/
theorem told_any (e : De) (he : e.fair) (w : World) : Calls Try.prog 56 #[e.v] w fun r w' => r = .returned (.int .i64 e.num) ∧ Gr w w' := by
  cases e with
  | ok => exact told_ok w
  | cd c => exact told_by _ c w he fun x W => (is_dev_code c x W).mono fun e W' ⟨h1, h2⟩ => ⟨h1, h2 ▸ Gr.refl _⟩
  | at_ n c => exact told_by _ c w he fun x W => is_dev_at n c x W
end Go.Proofs.Ytkdphgcbecldbaa
/- The disk: first, of two errors. -/
namespace Go.Proofs.Ytkdphgcbecldbaa
open Go.RowKit
set_option maxHeartbeats 400000 in
theorem bad_any (e : De) (w : World) : Calls Try.prog 77 #[e.v] w fun r w' => r = .returned (.bool e.bad) ∧ w = w' := by
  cases e with
  | ok =>
    go_enter Try.func77, Try.ntmps77
    simp only [De.v]
    go_wp2_with fail
    go_ret
    exact ⟨rfl, rfl⟩
  | cd c =>
    go_enter Try.func77, Try.ntmps77
    simp only [De.v]
    go_wp2_with fail
    go_ret
    exact ⟨rfl, rfl⟩
  | at_ n c =>
    go_enter Try.func77, Try.ntmps77
    simp only [De.v]
    go_wp2_with fail
    go_ret
    exact ⟨rfl, rfl⟩
set_option maxRecDepth 100000 in
set_option maxHeartbeats 1000000 in
theorem index2_any (g : Nat) (e1 e2 : De) (w : World) (h0 : w.cell? ⟨g, 0, none⟩ = some e1.v) (h1 : w.cell? ⟨g, 1, none⟩ = some e2.v) :
    Calls Try.prog 76 #[.slice (some ⟨g, 0, none⟩) 2 2, .func (.func 77) #[] #[]] w fun r w' => r = .returned (.int .i64 (if e1.bad then 0 else if e2.bad then 1 else -1)) ∧ w = w' := by
  cases hb1 : e1.bad with
  | true =>
    go_enter Try.func76, Try.ntmps76
    go_wp2_with fail
    refine wp_loop_rounds 3 ?_
    rw [rounds_succ]
    go_wp2_with fail
    refine (bad_any e1 _).mono ?_
    rintro e w1 ⟨rfl, rfl⟩
    rw [hb1]
    go_wp2_with fail
    go_ret
    exact ⟨rfl, rfl⟩
  | false =>
    cases hb2 : e2.bad with
    | true =>
      go_enter Try.func76, Try.ntmps76
      go_wp2_with fail
      refine wp_loop_rounds 3 ?_
      rw [rounds_succ]
      go_wp2_with fail
      refine (bad_any e1 _).mono ?_
      rintro e w1 ⟨rfl, rfl⟩
      rw [hb1]
      go_wp2_with fail
      rw [rounds_succ]
      go_wp2_with fail
      refine (bad_any e2 _).mono ?_
      rintro e w1 ⟨rfl, rfl⟩
      rw [hb2]
      go_wp2_with fail
      go_ret
      exact ⟨rfl, rfl⟩
    | false =>
      go_enter Try.func76, Try.ntmps76
      go_wp2_with fail
      refine wp_loop_rounds 3 ?_
      rw [rounds_succ]
      go_wp2_with fail
      refine (bad_any e1 _).mono ?_
      rintro e w1 ⟨rfl, rfl⟩
      rw [hb1]
      go_wp2_with fail
      rw [rounds_succ]
      go_wp2_with fail
      refine (bad_any e2 _).mono ?_
      rintro e w1 ⟨rfl, rfl⟩
      rw [hb2]
      go_wp2_with fail
      rw [rounds_succ]
      go_wp2_with fail
      go_ret
      exact ⟨rfl, rfl⟩
def De.or (e1 e2 : De) : De := if e1.bad then e1 else e2
theorem De.v_ok {e : De} (h : e.bad = false) : e = .ok := by cases e <;> first | rfl | cases h
set_option maxRecDepth 100000 in
set_option maxHeartbeats 1000000 in
/-- the first error of two -/
theorem first2_any (g : Nat) (e1 e2 : De) (w : World) (h0 : w.cell? ⟨g, 0, none⟩ = some e1.v) (h1 : w.cell? ⟨g, 1, none⟩ = some e2.v) :
    Calls Try.prog 52 #[.slice (some ⟨g, 0, none⟩) 2 2] w fun r w' => r = .returned (e1.or e2).v ∧ w = w' := by
  have hi := index2_any g e1 e2 w h0 h1
  cases hb1 : e1.bad with
  | true =>
    have ho : e1.or e2 = e1 := by simp [De.or, hb1]
    have HO := Lib.hid ho
    have HI := Lib.hid hi
    clear ho hi
    go_enter Try.func52, Try.ntmps52
    go_wp2_with fail
    refine HI.out.mono ?_
    rintro e w1 ⟨rfl, rfl⟩
    rw [if_pos hb1]
    go_wp2_with fail
    go_ret
    exact ⟨by rw [HO.out]; rfl, rfl⟩
  | false =>
    have ho : e1.or e2 = e2 := by simp [De.or, hb1]
    have HO := Lib.hid ho
    have HI := Lib.hid hi
    clear ho hi
    cases hb2 : e2.bad with
    | true =>
      go_enter Try.func52, Try.ntmps52
      go_wp2_with fail
      refine HI.out.mono ?_
      rintro e w1 ⟨rfl, rfl⟩
      rw [if_neg (by simp [hb1]), if_pos hb2]
      go_wp2_with fail
      go_ret
      exact ⟨by rw [HO.out]; rfl, rfl⟩
    | false =>
      go_enter Try.func52, Try.ntmps52
      go_wp2_with fail
      refine HI.out.mono ?_
      rintro e w1 ⟨rfl, rfl⟩
      rw [if_neg (by simp [hb1]), if_neg (by simp [hb2])]
      go_wp2_with fail
      go_ret
      exact ⟨by rw [HO.out, De.v_ok hb2]; rfl, rfl⟩
end Go.Proofs.Ytkdphgcbecldbaa
/- Walks of limpetkit's mark, markByte, Pick, SameBytes, LentBytes, KeptBytes. -/
namespace Go.Proofs.Ytkdphgcbecldbaa
open Go.RowKit

/-- the mark of a place in a list of bytes -/
def mB (k i : Nat) : Nat := (IntKind.u64.wrap (((1000003 * (k + 7) + i : Nat) : Int) * 11400714819323198485) / 72057594037927936 % 256).toNat
theorem mB_lt (k i : Nat) : mB k i < 256 := by
  unfold mB
  have := Int.emod_lt_of_pos (IntKind.u64.wrap (((1000003 * (k + 7) + i : Nat) : Int) * 11400714819323198485) / 72057594037927936) (show (0 : Int) < 256 by decide)
  have := Int.emod_nonneg (IntKind.u64.wrap (((1000003 * (k + 7) + i : Nat) : Int) * 11400714819323198485) / 72057594037927936) (show (256 : Int) ≠ 0 by decide)
  omega
theorem mB_eq (k i : Nat) : IntKind.u64.wrap (((1000003 * (k + 7) + i : Nat) : Int) * 11400714819323198485) / 72057594037927936 % 256 = ((mB k i : Nat) : Int) := by
  unfold mB
  rw [Int.toNat_of_nonneg (Int.emod_nonneg _ (by decide))]

set_option maxHeartbeats 400000 in
theorem mark_any (k i : Nat) (w : World) (hk : k ≤ 1000000) (hi : i ≤ 1000000000) :
    Calls Try.prog 84 #[.int .i64 k, .int .i64 i] w fun e w' => e = .returned (.int .i64 ((1000003 * (k + 7) + i : Nat) : Int)) ∧ w = w' := by
  go_enter Try.func84, Try.ntmps84
  go_wp2
  go_ret
  exact ⟨congrArg Ending.returned (by go_num), rfl⟩
set_option maxHeartbeats 400000 in
theorem markByte_any (k i : Nat) (w : World) (hk : k ≤ 1000000) (hi : i ≤ 1000000000) :
    Calls Try.prog 73 #[.int .i64 k, .int .i64 i] w fun e w' => e = .returned (.int .u8 ((mB k i : Nat) : Int)) ∧ w = w' := by
  have hm := mB_eq k i
  have HM := Lib.hid hm
  clear hm
  go_enter Try.func73, Try.ntmps73
  go_wp2_with fail
  refine (mark_any _ _ _ hk hi).mono ?_
  rintro e w' ⟨rfl, rfl⟩
  generalize hme : 1000003 * (k + 7) + i = m at HM
  have hm2 : m < 1000003 * 1000007 + 1000000001 := by omega
  clear hme
  go_wp2_with fail
  go_ret
  exact ⟨by rw [← HM.out]; rfl, rfl⟩

def pick (x n : Int) : Int := if n < 1 then 0 else x % n
set_option maxHeartbeats 400000 in
theorem pick_any (x n : Int) (w : World) (hn : n ≤ 9223372036854775807) :
    Calls Try.prog 21 #[.int .i64 x, .int .i64 n] w fun e w' => e = .returned (.int .i64 (pick x n)) ∧ w = w' := by
  by_cases h1 : n < 1
  · have hp : pick x n = 0 := if_pos h1
    rw [hp]
    clear hp
    go_enter Try.func21, Try.ntmps21
    go_wp2
    go_ret
    exact ⟨rfl, rfl⟩
  · have hp : pick x n = x % n := if_neg h1
    have h2 : x.tmod n < n := by
      have := Int.tmod_lt_of_pos x (show 0 < n by omega); exact this
    have h3 : -n < x.tmod n := by
      have h := Int.tmod_lt_of_pos (-x) (show 0 < n by omega)
      rw [Int.neg_tmod] at h; omega
    have h6 := Int.emod_lt_of_pos x (show 0 < n by omega)
    have h7 := Int.emod_nonneg x (show n ≠ 0 by omega)
    have h8 : x % n = x.tmod n + if 0 ≤ x ∨ n ∣ x then 0 else n.natAbs := Int.emod_eq_tmod
    by_cases h4 : x.tmod n < 0
    · have h5 : x.tmod n + n = x % n := by
        split at h8 <;> omega
      have HP := Lib.hid (hp.trans h5.symm)
      clear hp h5 h8 h6 h7
      go_enter Try.func21, Try.ntmps21
      go_wp2
      go_ret
      exact ⟨by rw [HP.out]; rfl, rfl⟩
    · have h5 : x.tmod n = x % n := by
        split at h8 <;> omega
      have HP := Lib.hid (hp.trans h5.symm)
      clear hp h5 h8 h6 h7
      go_enter Try.func21, Try.ntmps21
      go_wp2
      go_ret
      exact ⟨by rw [HP.out]; rfl, rfl⟩

theorem bs_drew {w : World} {B n : Nat} {s : Sl} {l : List Nat} (h : Bs w B s l) : Bs (w.drewN n) B s l := h
set_option maxHeartbeats 1000000 in
/-- two slices that are of one length -/
theorem same_any (A1 A2 : Option Addr) (n c1 c2 B : Nat) (l1 l2 : List Nat) (w : World) (h1 : Bs w B ⟨A1, n, c1⟩ l1) (h2 : Bs w B ⟨A2, n, c2⟩ l2) :
    Calls Try.prog 22 #[.slice A1 n c1, .slice A2 n c2] w fun e w' => e = .returned (.bool (decide (l1 = l2))) ∧ ∃ m, w' = w.drewN m := by
  have hn1 := h1.2.2.1
  have hc1 := h1.2.2.2.1
  simp only at hn1 hc1
  have H1 := Lib.hid h1
  have H2 := Lib.hid h2
  clear h1 h2
  go_enter Try.func22, Try.ntmps22
  go_wp2
  go_loopw [5] (fun i wr => ∃ k m : Nat, k ≤ n ∧ i = .int .i64 k ∧ Hid (l1.take k = l2.take k) ∧ wr = w.drewN m) (fun i _ => n - (intOf i).toNat)
  case atStart => exact ⟨0, 0, by omega, rfl, rfl, rfl⟩
  case round =>
    obtain ⟨k, m, hk, rfl, HT, rfl⟩ := hrel
    by_cases hkn : k < n
    · obtain ⟨b1, o1, hA1, hb1, hx1⟩ := H1.out.at_ (show 0 < n by omega)
      obtain ⟨b2, o2, hA2, hb2, hx2⟩ := H2.out.at_ (show 0 < n by omega)
      simp only at hA1 hA2 hx1 hx2
      subst hA1
      subst hA2
      have hx := hx1 k hkn
      have hy := hx2 k hkn
      clear hx1 hx2
      have hs1 := H1.out.2.1.at_ k
      have hs2 := H2.out.2.1.at_ k
      have hl1 : k < l1.length := by have := H1.out.1; simp only at this; omega
      have hl2 : k < l2.length := by have := H2.out.1; simp only at this; omega
      have ht1 : l1.take (k + 1) = l1.take k ++ [l1.getD k 0] := by
        rw [List.take_succ_eq_append_getElem hl1, List.getD_eq_getElem?_getD, List.getElem?_eq_getElem hl1, Option.getD_some]
      have ht2 : l2.take (k + 1) = l2.take k ++ [l2.getD k 0] := by
        rw [List.take_succ_eq_append_getElem hl2, List.getD_eq_getElem?_getD, List.getElem?_eq_getElem hl2, Option.getD_some]
      generalize l1.getD k 0 = x at *
      generalize l2.getD k 0 = y at *
      have HT1 := Lib.hid ht1
      have HT2 := Lib.hid ht2
      clear ht1 ht2
      by_cases e : x = y
      · have e' : ((x : Int) != (y : Int)) = false := by rw [e]; simp
        have E := Lib.hid e
        clear e
        go_wp2
        go_quiet (fail)
        go_wp2
        refine ⟨⟨k + 1, m + nq, by omega, by go_num, ?_, rfl⟩, by simp [intOf]; omega⟩
        show _ = _
        rw [HT1.out, HT2.out, HT.out, E.out]
      · have e' : ((x : Int) != (y : Int)) = true := by simp; omega
        have E : ¬ l1 = l2 := by
          intro h
          have h1 := HT1.out
          have h2 := HT2.out
          rw [h] at h1
          rw [h1, HT.out.symm.trans (by rw [h])] at h2
          exact e (by simpa using h2)
        have E2 : decide (l1 = l2) = false := decide_eq_false E
        have EE := Lib.hid E2
        clear E2 E e
        go_wp2
        go_quiet (fail)
        go_wp2
        go_ret
        exact ⟨by rw [EE.out]; rfl, m + nq, by rw [World.drewN_drewN]⟩
    · obtain rfl : k = n := by omega
      have E2 : decide (l1 = l2) = true := by
        have h1 := H1.out.1
        have h2 := H2.out.1
        have h3 := HT.out
        simp only at h1 h2
        rw [List.take_of_length_le (by omega), List.take_of_length_le (by omega)] at h3
        exact decide_eq_true h3
      have EE := Lib.hid E2
      clear E2
      go_wp2
      go_ret
      exact ⟨by rw [EE.out]; rfl, m, rfl⟩

set_option maxHeartbeats 400000 in
/-- two slices that are not of one length -/
theorem same_len (A1 A2 : Option Addr) (n1 n2 c1 c2 : Nat) (w : World) (h : n1 ≠ n2) :
    Calls Try.prog 22 #[.slice A1 n1 c1, .slice A2 n2 c2] w fun e w' => e = .returned (.bool false) ∧ w' = w := by
  have h' : ((n1 : Int) != (n2 : Int)) = true := by simp; omega
  go_enter Try.func22, Try.ntmps22
  go_wp2
  go_ret
  exact ⟨rfl, rfl⟩
/-- are two slices the same? -/
theorem same_two (A1 A2 : Option Addr) (n1 n2 c1 c2 B : Nat) (l1 l2 : List Nat) (w : World) (h1 : Bs w B ⟨A1, n1, c1⟩ l1) (h2 : Bs w B ⟨A2, n2, c2⟩ l2) :
    Calls Try.prog 22 #[.slice A1 n1 c1, .slice A2 n2 c2] w fun e w' => e = .returned (.bool (decide (l1 = l2))) ∧ ∃ m, w' = w.drewN m := by
  by_cases e : n1 = n2
  · subst e; exact same_any A1 A2 n1 c1 c2 B l1 l2 w h1 h2
  · refine (same_len A1 A2 n1 n2 c1 c2 w e).mono fun e' w' ⟨he, hw⟩ => ⟨?_, 0, hw⟩
    rw [he, decide_eq_false]
    intro h
    have := h1.1
    have := h2.1
    simp only at *
    subst h
    omega

def bvs (l : List Nat) : List Value := l.map fun x => .int .u8 ((x : Nat) : Int)
theorem bvs_one (l : List Nat) : ∀ u ∈ bvs l, u.oneCell' = true := by
  intro u hu
  obtain ⟨_, _, rfl⟩ := List.mem_map.1 hu
  rfl
theorem bvs_at {l : List Nat} {j : Nat} {u : Value} (h : (bvs l)[j]? = some u) : j < l.length ∧ u = .int .u8 ((l.getD j 0 : Nat) : Int) := by
  have hj : j < l.length := by have := (List.getElem?_eq_some_iff.1 h).1; simpa [bvs] using this
  refine ⟨hj, ?_⟩
  simp only [bvs, List.getElem?_map, List.getElem?_eq_getElem hj, Option.map_some, Option.some.injEq] at h
  rw [← h, List.getD_eq_getElem?_getD, List.getElem?_eq_getElem hj, Option.getD_some]
def marks : List Nat := (List.range 12).map (mB 1)
theorem marks_take (k : Nat) (h : k < 12) : marks.take (k + 1) = marks.take k ++ [mB 1 k] := by
  rw [List.take_succ_eq_append_getElem (by simp [marks]; exact h)]
  simp [marks]
theorem bs_cells {w : World} {B : Nat} {A : Option Addr} {n c : Nat} {l : List Nat} (h : Bs w B ⟨A, n, c⟩ l) (ad : Addr) (had : A = some ad) (j : Nat) (u : Value) (hu : (bvs l)[j]? = some u) : w.cell? (ad.add j) = some u := by
  obtain ⟨hj, rfl⟩ := bvs_at hu
  have hl : n = l.length := h.1
  obtain ⟨b, o, hA, _, hx⟩ := h.at_ (show 0 < n by omega)
  simp only at hA
  rw [had] at hA
  injection hA with hA
  subst hA
  have := hx j (show j < n by omega)
  rw [Addr.add_lit]
  exact this
theorem bs_none {w : World} {B : Nat} {A : Option Addr} {n c : Nat} {l : List Nat} (h : Bs w B ⟨A, n, c⟩ l) (e : A = none) : n = 0 := by
  rcases Nat.eq_zero_or_pos n with h0 | h0
  · exact h0
  · obtain ⟨b, o, hA, _⟩ := h.at_ h0
    simp only at hA
    rw [e] at hA; cases hA
theorem info5 : (Try.prog.info? 5).map (fun i => (i.zero, i.size, i.bytes)) = some (some (.int .u8 0), 1, 1) := by kernel_rfl
set_option maxRecDepth 100000 in
set_option maxHeartbeats 1000000 in
/-- bytes that are lent: new memory, with marks behind -/
theorem lent_any (A : Option Addr) (n c B : Nat) (l : List Nat) (w : World) (h : Bs w B ⟨A, n, c⟩ l) (hB : B ≤ w.heap.size) (hA0 : A = none → c = 0) (hn : n ≤ 1000000) :
    Calls Try.prog 43 #[.slice A n c] w fun e w' => ∃ g, e = .returned (.slice (some ⟨g, 0, none⟩) n (n + 12)) ∧ w.heap.size ≤ g ∧ w'.heap[g]? = some (.cells (bvs (l ++ marks)).toArray 5 (0, 0)) ∧ Below w.heap.size w w' := by
  obtain ⟨i5, hi, hz, hs, hby⟩ := info_parts info5
  have hln : l.length = n := h.1.symm
  have H := Lib.hid h
  have HN := Lib.hid hln
  have hcells : Hid (∀ ad, A = some ad → ∀ j u, (bvs l)[j]? = some u → w.cell? (ad.add j) = some u) := bs_cells h
  have hnone : Hid (A = none → n = 0 ∧ c = 0) := fun e => ⟨bs_none h e, hA0 e⟩
  clear h hln hA0
  go_enter Try.func43, Try.ntmps43
  go_wp2_with (at_make; refine wpList_make_own _ rfl _ _ 24 rfl w.heap.size 5 i5 (.int .u8 0) 1 Try.underlying24 hi hz hs .i64 .i64 _ (n + 12) rfl rfl ?c1 ?c2 ?c3 (Nat.le_refl _) ?_)
  case c1 => go_num
  case c2 => rw [hby]; omega
  case c3 => unfold maxLen; omega
  intro w1 hown hg1
  have hb1 : Below w.heap.size w w1 := (Below.refl _ _).grown hg1 (Nat.le_refl _) (by simp)
  have hcells1 : Hid (∀ ad, A = some ad → ∀ j u, (bvs l)[j]? = some u → w1.cell? (ad.add j) = some u) := bs_cells (H.out.below hb1 hB)
  clear hcells
  generalize hge : w.heap.size = g at *
  go_wp2_with (at_builtin; refine wpList_append_fits_any _ rfl (.tmp 9) (.tmp 10) 24 rfl g 5 i5 1 Try.underlying24 hi hs g 0 (n + 12) [] rfl hown A n c (bvs l) rfl ?d1 hnone.out hcells1.out (bvs_one l) ?d2 ?_)
  case d1 => rw [bvs, List.length_map, HN.out, Nat.mul_one]
  case d2 => omega
  intro w2 hown2 hg2
  have hb2 : Below g w w2 := hb1.grown hg2 (by rw [← hge]; exact hb1.size) (by simp)
  clear hown hg1 hg2 hnone hcells1
  have HGE := Lib.hid hge
  have hgw2 : g < w2.heap.size := by
    rcases hown2.2 with ⟨h, _⟩ | ⟨g', _, cur, hv, _, hh, _⟩
    · cases h
    · injection hv with hv
      injection hv with hv
      injection hv with hv
      subst hv
      rcases Nat.lt_or_ge g w2.heap.size with hlt | hge'
      · exact hlt
      · rw [Array.getElem?_eq_none hge'] at hh; cases hh
  clear hge
  go_wp2_with fail
  go_loopw [3, 4] (fun v i wr => ∃ k : Nat, k ≤ 12 ∧ i = .int .i64 k ∧ v = .slice (some ⟨g, 0, none⟩) (n + k) (n + 12) ∧ wr.ownsRow g 5 1 (.slice (some ⟨g, 0, none⟩) (n + k) (n + 12)) (n + k) (bvs (l ++ marks.take k)) ∧ Below g w wr ∧ g < wr.heap.size) (fun _ i _ => 12 - (intOf i).toNat)
  case atStart => exact ⟨0, by omega, rfl, rfl, by simpa using hown2, hb2, hgw2⟩
  case round =>
    obtain ⟨k, hk, rfl, rfl, hown, hb, hgw⟩ := hrel
    by_cases hk12 : k < 12
    · go_wp2_with fail
      refine (markByte_any 1 k _ (by decide) (by omega)).mono ?_
      rintro e w' ⟨rfl, rfl⟩
      go_wp2_with (at_builtin; refine wpList_append_fits_any _ rfl (.tmp 16) (.tmp 19) 24 rfl g 5 i5 1 Try.underlying24 hi hs g (n + k) (n + 12) _ rfl (hown.alloc _) (some ⟨wr.heap.size, 0, none⟩) 1 1 [.int .u8 (mB 1 k : Nat)] rfl rfl ?d1 ?d2 ?d3 ?d4 ?_)
      case d1 => intro h; cases h
      case d2 => intro ad had; injection had with had; subst had; exact cell_one_new _ _ _
      case d3 => intro u hu; rw [List.mem_singleton.1 hu]; rfl
      case d4 => omega
      intro w3 hown3 hg3
      have hb3 : Below g w w3 := (hb.alloc (Nat.le_of_lt hgw) _).grown hg3 (by rw [World.size_alloc]; omega) (by simp)
      have hsz3 : g < w3.heap.size := by have := hg3.size; rw [World.size_alloc] at this; omega
      go_wp2_with fail
      go_roundw
      case rel =>
        refine ⟨k + 1, by omega, by go_num, by rw [Nat.add_assoc], ?_, hb3, hsz3⟩
        rw [marks_take k hk12, ← List.append_assoc]
        have e : bvs (l ++ marks.take k ++ [mB 1 k]) = bvs (l ++ marks.take k) ++ [.int .u8 (mB 1 k : Nat)] := by simp [bvs]
        rw [e]
        exact hown3
      case measure => simp [intOf]; omega
    · obtain rfl : k = 12 := by omega
      go_wp2_with fail
      go_ret
      refine ⟨g, rfl, by rw [HGE.out]; exact Nat.le_refl _, ?_, by rw [HGE.out]; exact hb⟩
      obtain ⟨hlen, h | ⟨g', cap, cur, hv, _, hh, _, _, hcs, htk⟩⟩ := hown
      · cases h.1
      · injection hv with hv hv2 hv3
        injection hv with hv
        injection hv with hv
        subst hv
        subst hv3
        rw [hh]
        have hm : marks.take 12 = marks := List.take_of_length_le (by simp [marks])
        rw [hm, List.take_of_length_le (by rw [Array.length_toList, hcs]; omega)] at htk
        rw [← htk]

/-- block g is just these cells of element type t -/
def Blk (w : World) (g : Nat) (t : TypeId) (cs : Array Value) : Prop := w.heap[g]? = some (.cells cs t (0, 0))
theorem Blk.cell {w : World} {g : Nat} {t : TypeId} {cs : Array Value} (h : Blk w g t cs) (i : Nat) : w.cell? ⟨g, i, none⟩ = cs[i]? := cell_of_row w g i cs t (0, 0) h
theorem Blk.lt {w : World} {g : Nat} {t : TypeId} {cs : Array Value} (h : Blk w g t cs) : g < w.heap.size := by
  rcases Nat.lt_or_ge g w.heap.size with hlt | hge
  · exact hlt
  · unfold Blk at h; rw [Array.getElem?_eq_none hge] at h; cases h
theorem Blk.below {w w' : World} {B g : Nat} {t : TypeId} {cs : Array Value} (h : Blk w g t cs) (hb : Below B w w') (hg : g < B) : Blk w' g t cs := (hb.block g hg).trans h
theorem blk_bvs {w : World} {g : Nat} {l : List Nat} (h : Blk w g 5 (bvs l).toArray) (i : Nat) (hi : i < l.length) : w.cell? ⟨g, i, none⟩ = some (.int .u8 ((l.getD i 0 : Nat) : Int)) := by
  rw [h.cell]
  simp only [bvs, List.getElem?_toArray, List.getElem?_map, List.getElem?_eq_getElem hi, Option.map_some, List.getD_eq_getElem?_getD, Option.getD_some]

theorem markByte_off (k n : Nat) (h1 : n ≤ k) (h2 : k < n + 12) (w : World) : Calls Try.prog 73 #[.int .i64 1, .int .i64 ((k : Int) - (n : Int))] w fun e w' => e = .returned (.int .u8 ((mB 1 (k - n) : Nat) : Int)) ∧ w' = w := by
  have := markByte_any 1 (k - n) w (by decide) (by omega)
  rw [show (((k - n : Nat)) : Int) = (k : Int) - (n : Int) by omega] at this
  exact this.mono fun _ _ ⟨h1, h2⟩ => ⟨h1, h2.symm⟩
theorem getD_map_range (f : Nat → Nat) (n i : Nat) (h : i < n) : ((List.range n).map f)[i]?.getD 0 = f i := by
  rw [List.getElem?_map, List.getElem?_range h, Option.map_some, Option.getD_some]
theorem marks_at (l : List Nat) (n k : Nat) (hl : l.length = n) (h1 : n ≤ k) (h2 : k < n + 12) : (l ++ marks).getD k 0 = mB 1 (k - n) := by
  rw [List.getD_eq_getElem?_getD, List.getElem?_append_right (by omega), hl]
  exact getD_map_range (mB 1) 12 (k - n) (by omega)
set_option maxRecDepth 100000 in
set_option maxHeartbeats 1000000 in
/-- what was lent, and its marks, are as they were -/
theorem kept_any (A : Option Addr) (g n c B : Nat) (l : List Nat) (w : World) (h : Bs w B ⟨A, n, c⟩ l) (hg : Blk w g 5 (bvs (l ++ marks)).toArray) (hn : n ≤ 1000000) :
    Calls Try.prog 51 #[.slice (some ⟨g, 0, none⟩) n (n + 12), .slice A n c] w fun e w' => e = .returned (.bool true) ∧ ∃ m, w' = w.drewN m := by
  have hln : l.length = n := h.1.symm
  have HN := Lib.hid hln
  have H := Lib.hid h
  have HG := Lib.hid hg
  have hnc := h.2.2.1
  have hcm := h.2.2.2.1
  simp only at hnc hcm
  clear h hg hln
  go_enter Try.func51, Try.ntmps51
  go_wp2_with fail
  go_loopw [6] (fun i wr => ∃ k m : Nat, k ≤ n + 12 ∧ i = .int .i64 k ∧ wr = w.drewN m) (fun i _ => n + 12 - (intOf i).toNat)
  case atStart => exact ⟨0, 0, by omega, rfl, rfl⟩
  case round =>
    obtain ⟨k, m, hk, rfl, rfl⟩ := hrel
    by_cases hkn : k < n
    · obtain ⟨b1, o1, hA1, hb1, hx1⟩ := H.out.at_ (show 0 < n by omega)
      simp only at hA1 hx1
      subst hA1
      have hx := hx1 k hkn
      have hy := blk_bvs HG.out k (by have := HN.out; simp [marks]; omega)
      rw [List.getD_eq_getElem?_getD, List.getElem?_append_left (by rw [HN.out]; exact hkn), ← List.getD_eq_getElem?_getD] at hy
      clear hx1
      generalize l.getD k 0 = x at *
      have hd1 : decide (k < n) = true := decide_eq_true hkn
      have hd2 : decide (n ≤ k) = false := decide_eq_false (by omega)
      go_wp2
      go_quiet (fail)
      go_wp2
      go_roundw
      case rel => exact ⟨k + 1, m + nq, by omega, by go_num, rfl⟩
      case measure => simp [intOf]; omega
    · by_cases hk12 : k < n + 12
      · have hy := blk_bvs HG.out k (by have := HN.out; simp [marks]; omega)
        have hmk := marks_at l n k HN.out (by omega) hk12
        rw [hmk] at hy
        have hlt := mB_lt 1 (k - n)
        have hd1 : decide (k < n) = false := decide_eq_false hkn
        have hd2 : decide (n ≤ k) = true := decide_eq_true (by omega)
        have hmb := markByte_off k n (by omega) hk12
        generalize mB 1 (k - n) = x at *
        have HMB := Lib.hid hmb
        have hyW : (w.drewN m).cell? ⟨g, k, none⟩ = some (.int .u8 ((x : Nat) : Int)) := hy
        clear hmb hmk hy
        generalize hW : w.drewN m = W at *
        have HW := Lib.hid hW
        clear hW
        go_wp2
        go_quiet ((go_at_call 73; exact Calls.quiet_of_same (HMB.out _)))
        go_wp2
        go_roundw
        case rel => exact ⟨k + 1, m + nq, by omega, by go_num, by rw [← HW.out, World.drewN_drewN]⟩
        case measure => simp [intOf]; omega
      · obtain rfl : k = n + 12 := by omega
        go_wp2_with fail
        go_ret
        exact ⟨rfl, m, rfl⟩
end Go.Proofs.Ytkdphgcbecldbaa
