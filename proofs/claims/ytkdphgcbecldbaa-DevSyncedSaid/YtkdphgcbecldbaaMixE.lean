/- Walk of limpetlaw01's awake: the chapter's examples. -/
import Derived.Test.YtkdphgcbecldbaaMixR
import Derived.Deep.RegionHeld3
import Derived.Lib.SlBytesConst
namespace Go.Proofs.Ytkdphgcbecldbaa
open Go.RowKit MixM

/-- the world has grown -/
def Gr (w w' : World) : Prop := Below w.heap.size w w'
theorem Gr.refl (w : World) : Gr w w := Below.refl _ _
theorem Gr.drew (w : World) : Gr w w.drew := (Below.refl _ _).drew
theorem Gr.step {a b c : World} (h : Gr b c) (k : Gr a b) : Gr a c := Below.trans k (Below.mono h k.size)
theorem Gr.alloc {a b : World} (k : Gr a b) (o : Obj) : Gr a (b.alloc o) := Below.alloc k k.size o
theorem Gr.at_alloc (b : World) (o : Obj) : Gr b (b.alloc o) := (Gr.refl b).alloc o

theorem sum_nil (w : World) : Calls Try.prog 16 #[.slice none 0 0] w fun e w' => e = .returned (.int .u32 0) ∧ Gr w w' := by
  have h := sum_any none 0 0 [] [] w ⟨rfl, rfl, ⟨Nat.le_refl _, by simp, fun h => absurd h (by simp)⟩, fun i hi => absurd hi (by simp)⟩
  exact h
theorem sum_at {w : World} {g n c B : Nat} {A : Option Addr} {l : List Nat} {T : TypeId} {s : Int} (hg : w.heap[g]? = some (.cells #[.slice A n c] T (0, 0))) (h : Bs w B ⟨A, n, c⟩ l) (hB : B ≤ w.heap.size) (hs : ((sum l : Nat) : Int) = s) :
    Calls Try.prog 16 #[.slice (some ⟨g, 0, none⟩) 1 1] w fun e w' => e = .returned (.int .u32 s) ∧ Gr w w' := by
  have hlt : g < w.heap.size := by
    rcases Nat.lt_or_ge g w.heap.size with hlt | hge
    · exact hlt
    · rw [Array.getElem?_eq_none hge] at hg; cases hg
  have h1 := sum_any (some ⟨g, 0, none⟩) 1 1 [⟨A, n, c⟩] [l] w ⟨rfl, rfl, ⟨Nat.le_refl _, by simp, fun _ => ⟨g, 0, rfl, hlt, fun i hi => by
    obtain rfl : i = 0 := by simp only at hi; omega
    exact cell_of_row w g 0 _ _ _ hg⟩⟩, fun i hi => by
    obtain rfl : i = 0 := by simp only at hi; omega
    exact h.more hB⟩
  rw [List.flatten_singleton, hs] at h1
  exact h1
def digits : List Nat := [49, 50, 51, 52, 53, 54, 55, 56, 57]
theorem sum_digits : ((sum digits : Nat) : Int) = 3808858755 := by decide +kernel
theorem sum_d4 : ((sum (digits.take 4) : Nat) : Int) = 4131058926 := by decide +kernel
theorem sum_d5 : ((sum (digits.drop 4) : Nat) : Int) = 2209703384 := by decide +kernel
theorem sum_zeros : ((sum (List.replicate 32 0) : Nat) : Int) = 2324772522 := by decide +kernel
theorem join_digits (w : World) : Calls Try.prog 18 #[.int .u32 4131058926, .int .u32 2209703384, .int .i64 5] w fun e w' => e = .returned (.int .u32 3808858755) ∧ w = w' := by
  have h := join_any 4131058926 2209703384 5 w (by decide) (by decide) (by decide) (by decide)
  have e : ((shN (8 * 5) 4131058926 ^^^ 2209703384 : Nat) : Int) = 3808858755 := by decide +kernel
  rw [e] at h
  exact h

/-- the block of the digits -/
def DigitsAt (w : World) (g : Nat) : Prop := ∀ i, i < 9 → w.cell? ⟨g, i, none⟩ = some (.int .u8 ((digits.getD i 0 : Nat) : Int))
theorem DigitsAt.bs {w : World} {g : Nat} (h : DigitsAt w g) (hg : g < w.heap.size) : Bs w w.heap.size ⟨some ⟨g, 0, none⟩, 9, 9⟩ digits :=
  ⟨rfl, by intro x hx; simp [digits] at hx; omega, Nat.le_refl _, by simp only; omega, fun _ => ⟨g, 0, rfl, hg, fun i hi => by rw [Nat.zero_add]; exact h i hi⟩⟩
theorem small_take {l : List Nat} (h : Small l) (k : Nat) : Small (l.take k) := fun x hx => h x (List.mem_of_mem_take hx)
theorem DigitsAt.bs4 {w : World} {g : Nat} (h : DigitsAt w g) (hg : g < w.heap.size) : Bs w w.heap.size ⟨some ⟨g, 0, none⟩, 4, 9⟩ (digits.take 4) :=
  ⟨rfl, small_take (h.bs hg).2.1 4, by simp only; omega, by simp only; omega, fun _ => ⟨g, 0, rfl, hg, fun i hi => by
    simp only at hi
    rw [Nat.zero_add, h i (by omega)]
    simp only [bv, List.getD_eq_getElem?_getD, List.getElem?_take, if_pos hi]⟩⟩
theorem DigitsAt.bs5 {w : World} {g : Nat} (h : DigitsAt w g) (hg : g < w.heap.size) : Bs w w.heap.size ⟨some ⟨g, 4, none⟩, 5, 5⟩ (digits.drop 4) :=
  (h.bs hg).cut 4 (by simp only; omega)
theorem DigitsAt.gr {w w' : World} {g : Nat} (h : DigitsAt w g) (hb : Gr w w') (hg : g < w.heap.size) : DigitsAt w' g := fun i hi => (Below.cell hb hg).trans (h i hi)

theorem digits_new (w : World) : DigitsAt (w.alloc (.cells #[.int .u8 49, .int .u8 50, .int .u8 51, .int .u8 52, .int .u8 53, .int .u8 54, .int .u8 55, .int .u8 56, .int .u8 57] 5 (9, 10))) w.heap.size := by
  intro i hi
  rw [cell_of_row _ w.heap.size i _ _ _ (heap_alloc_new w _)]
  match i, hi with
  | 0, _ | 1, _ | 2, _ | 3, _ | 4, _ | 5, _ | 6, _ | 7, _ | 8, _ => rfl
theorem gr_size {a b : World} (h : Gr a b) : a.heap.size ≤ b.heap.size := Below.size h
theorem bs_gr {w w' : World} {B : Nat} {s : Sl} {l : List Nat} (h : Bs w B s l) (hb : Gr w w') (hB : B ≤ w.heap.size) : Bs w' B s l := h.below hb hB
theorem heap_alloc_at {w : World} {o : Obj} {g : Nat} (e : g = w.heap.size) : (w.alloc o).heap[g]? = some o := by subst e; exact heap_alloc_new w o
theorem heap_alloc_under {w : World} {o o' : Obj} {g : Nat} (e : g = w.heap.size) : ((w.alloc o).alloc o').heap[g]? = some o := by
  subst e
  rw [Below.heap_alloc _ _ _ (by rw [World.size_alloc]; omega)]
  exact heap_alloc_new w o
theorem heap_gr_new {w w' : World} {o : Obj} {g : Nat} (h : Gr (w.alloc o) w') (e : g = w.heap.size) : w'.heap[g]? = some o := by
  rw [Below.block h g (by rw [World.size_alloc]; omega)]
  exact heap_alloc_at e
theorem heap_gr_under {w w' : World} {o o' : Obj} {g : Nat} (h : Gr ((w.alloc o).alloc o') w') (e : g = w.heap.size) : w'.heap[g]? = some o := by
  rw [Below.block h g (by rw [World.size_alloc, World.size_alloc]; omega)]
  exact heap_alloc_under e
theorem fits_0 {w : World} {B : Nat} {A : Option Addr} {n c : Nat} (h : Bs w B ⟨A, n, c⟩ digits) (hB : B ≤ w.heap.size) : Calls Try.prog 13 #[.slice A n c, .int .u32 0] w fun e w' => e = .returned (.int .i64 5) ∧ Gr w w' := by
  have h1 := fits_no A n c digits 0 B w h hB (by decide +kernel)
  exact h1
theorem fits_d {w : World} {B : Nat} {A : Option Addr} {n c : Nat} (h : Bs w B ⟨A, n, c⟩ digits) (hB : B ≤ w.heap.size) : Calls Try.prog 13 #[.slice A n c, .int .u32 3808858755] w fun e w' => e = .returned (.int .i64 0) ∧ Gr w w' := by
  have h1 := fits_yes A n c digits 3808858755 B w h hB (by decide +kernel)
  exact h1
def Z32 : Array Value := Array.replicate 32 (.int .u8 0)
theorem make32 (w : World) : (Instr.makeSlice 24 (.int .i64 32) (.int .i64 32)).run Try.prog w = .ok (.slice (some ⟨w.heap.size, 0, none⟩) 32 32) (w.alloc (.cells Z32 5)) := by kernel_rfl
theorem zeros_bs (w : World) (o : Obj) : Bs ((w.alloc (.cells Z32 5)).alloc o) (w.heap.size + 1) ⟨some ⟨w.heap.size, 0, none⟩, 32, 32⟩ (List.replicate 32 0) := by
  have h0 : Bs (w.alloc (.cells Z32 5)) (w.heap.size + 1) ⟨some ⟨w.heap.size, 0, none⟩, 32, 32⟩ (List.replicate 32 0) := by
    refine ⟨rfl, fun x hx => by rw [(List.mem_replicate.1 hx).2]; decide, Nat.le_refl _, by simp only; omega, fun _ => ⟨w.heap.size, 0, rfl, by omega, fun i hi => ?_⟩⟩
    simp only at hi
    rw [cell_of_row _ w.heap.size (0 + i) _ _ _ (heap_alloc_new w _), Nat.zero_add]
    simp only [Z32, bv, Array.getElem?_replicate, if_pos hi, List.getD_eq_getElem?_getD, List.getElem?_replicate, Option.getD_some]
    rfl
  exact h0.below (Gr.at_alloc _ o) (by rw [World.size_alloc]; exact Nat.le_refl _)
theorem size_two (w : World) (o1 o2 : Obj) : w.heap.size + 1 ≤ ((w.alloc o1).alloc o2).heap.size := by rw [World.size_alloc, World.size_alloc]; omega
set_option maxRecDepth 100000 in
set_option maxHeartbeats 2000000 in
theorem awake1 (w : World) : Calls Try.prog 11 #[] w fun e w' => e = .returned (.bool true) ∧ Gr w w' := by
  have kc := fun (w : World) (C : Array Value) (n c : Nat) => Lib.run_convert_bytes_const (P := Try.prog) w 24 5 C n c Try.underlying24 Try.underlying5
  go_enter Try.func11, Try.ntmps11
  go_wp2_with fail
  have hd := digits_new w
  have hg1 := Gr.at_alloc w (.cells #[.int .u8 49, .int .u8 50, .int .u8 51, .int .u8 52, .int .u8 53, .int .u8 54, .int .u8 55, .int .u8 56, .int .u8 57] 5 (9, 10))
  have hlt : w.heap.size < (w.alloc (.cells #[.int .u8 49, .int .u8 50, .int .u8 51, .int .u8 52, .int .u8 53, .int .u8 54, .int .u8 55, .int .u8 56, .int .u8 57] 5 (9, 10))).heap.size := by rw [World.size_alloc]; omega
  generalize w.alloc (.cells #[.int .u8 49, .int .u8 50, .int .u8 51, .int .u8 52, .int .u8 53, .int .u8 54, .int .u8 55, .int .u8 56, .int .u8 57] 5 (9, 10)) = W0 at *
  have HD9 := Lib.hid (hd.bs hlt)
  have HD4 := Lib.hid (hd.bs4 hlt)
  have HD5 := Lib.hid (hd.bs5 hlt)
  have HG1 := Lib.hid hg1
  clear hd hg1
  generalize w.heap.size = g at *
  clear kc
  have hmk := make32
  go_region_held3 (fun w' => Gr W0 w') (first | assumption | exact Gr.drew _ | exact Gr.alloc (by assumption) _ | exact Gr.step (by assumption) (by assumption))
    (first
     | (go_at_call 16; (with_reducible refine (sum_nil _).mono ?_); rintro e w' ⟨rfl, hb'⟩)
     | (go_at_call 16; (with_reducible refine (sum_at (heap_alloc_new _ _) (bs_gr HD9.out (by assumption) (Nat.le_refl _)) (gr_size (by assumption)) sum_digits).mono ?_); rintro e w' ⟨rfl, hb'⟩)
     | (go_at_call 16; (with_reducible refine (sum_at (heap_alloc_at (by simp)) (zeros_bs _ _) (size_two _ _ _) sum_zeros).mono ?_); rintro e w' ⟨rfl, hb'⟩)
     | (go_at_call 16; (with_reducible refine (sum_at (by first | exact heap_alloc_new _ _ | exact heap_alloc_at (by simp) | exact heap_alloc_under (by simp)) (bs_gr HD4.out (by assumption) (Nat.le_refl _)) (gr_size (by assumption)) sum_d4).mono ?_); rintro e w' ⟨rfl, hb'⟩)
     | (go_at_call 16; (with_reducible refine (sum_at (by first | exact heap_alloc_new _ _ | exact heap_alloc_at (by simp) | exact heap_alloc_under (by simp) | exact heap_gr_new (by assumption) (by simp) | exact heap_gr_under (by assumption) (by simp)) (bs_gr HD5.out (by assumption) (Nat.le_refl _)) (gr_size (by assumption)) sum_d5).mono ?_); rintro e w' ⟨rfl, hb'⟩)
     | (go_at_call 18; (with_reducible refine (join_digits _).mono ?_); rintro e w' ⟨rfl, rfl⟩)
     | (go_at_call 13; (with_reducible refine (fits_0 (bs_gr HD9.out (by assumption) (Nat.le_refl _)) (gr_size (by assumption))).mono ?_); rintro e w' ⟨rfl, hb'⟩)
     | (go_at_call 13; (with_reducible refine (fits_d (bs_gr HD9.out (by assumption) (Nat.le_refl _)) (gr_size (by assumption))).mono ?_); rintro e w' ⟨rfl, hb'⟩)
     | fail "no arm")
  all_goals (go_wp2_with fail; go_ret; exact ⟨rfl, Gr.step (by assumption) HG1.out⟩)
end Go.Proofs.Ytkdphgcbecldbaa
