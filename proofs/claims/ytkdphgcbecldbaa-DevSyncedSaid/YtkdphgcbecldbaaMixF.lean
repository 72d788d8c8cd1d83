/- MixParts: sums joined are the sum of both, however they are parted; any three slices. -/
import Derived.Test.YtkdphgcbecldbaaMixE
namespace Go.Proofs.Ytkdphgcbecldbaa
open Go.RowKit MixM

def joinN (a b m : Nat) : Nat := if m < 1 then a else shN (8 * m) a ^^^ b
theorem join_nat (a b m : Nat) (w : World) (ha : a < 4294967296) (hb : b < 4294967296) (hm : m ≤ 9223372036854775807) :
    Calls Try.prog 18 #[.int .u32 a, .int .u32 b, .int .i64 m] w fun e w' => e = .returned (.int .u32 ((joinN a b m : Nat) : Int)) ∧ w = w' := by
  unfold joinN
  by_cases h : m < 1
  · rw [if_pos h]; exact join_low a b m w (by omega)
  · rw [if_neg h]; exact join_any a b m w ha hb (by omega) hm
theorem joinN_sum (l r : List Nat) : joinN (sum l) (sum r) r.length = sum (l ++ r) := by
  unfold joinN
  rw [sum_append]
  by_cases h : r.length < 1
  · have : r = [] := List.eq_nil_of_length_eq_zero (by omega)
    subst this
    rw [if_pos h]
    show sum l = shN 0 (sum l) ^^^ 0
    rw [Nat.xor_zero]; rfl
  · rw [if_neg h]
theorem joinN_zero (l : List Nat) : joinN 0 (sum l) l.length = sum l := by
  have := joinN_sum [] l
  rwa [List.nil_append, show sum [] = 0 from rfl] at this
/-- three slices in a new block, as a row of three -/
theorem rs_three {w : World} {B : Nat} {A1 A2 A3 : Option Addr} {n1 n2 n3 c1 c2 c3 : Nat} {l1 l2 l3 : List Nat} (h1 : Bs w B ⟨A1, n1, c1⟩ l1) (h2 : Bs w B ⟨A2, n2, c2⟩ l2) (h3 : Bs w B ⟨A3, n3, c3⟩ l3) (hB : B ≤ w.heap.size) (T : TypeId) :
    Rs (w.alloc (.cells #[.slice A1 n1 c1, .slice A2 n2 c2, .slice A3 n3 c3] T)) (w.heap.size + 1) ⟨some ⟨w.heap.size, 0, none⟩, 3, 3⟩ [⟨A1, n1, c1⟩, ⟨A2, n2, c2⟩, ⟨A3, n3, c3⟩] [l1, l2, l3] := by
  have hb : Below w.heap.size w (w.alloc (.cells #[.slice A1 n1 c1, .slice A2 n2 c2, .slice A3 n3 c3] T)) := (Below.refl _ _).alloc (Nat.le_refl _) _
  refine ⟨rfl, rfl, ⟨Nat.le_refl _, by simp only; omega, fun _ => ⟨w.heap.size, 0, rfl, by omega, fun i hi => ?_⟩⟩, fun i hi => ?_⟩
  · simp only at hi
    rw [Nat.zero_add, cell_of_row _ w.heap.size i _ _ _ (heap_alloc_new w _)]
    match i, hi with
    | 0, _ | 1, _ | 2, _ => rfl
  · simp only at hi
    match i, hi with
    | 0, _ => exact (h1.below hb hB).more (by omega)
    | 1, _ => exact (h2.below hb hB).more (by omega)
    | 2, _ => exact (h3.below hb hB).more (by omega)
theorem sum_three {w : World} {B : Nat} {A1 A2 A3 : Option Addr} {n1 n2 n3 c1 c2 c3 : Nat} {l1 l2 l3 : List Nat} (h1 : Bs w B ⟨A1, n1, c1⟩ l1) (h2 : Bs w B ⟨A2, n2, c2⟩ l2) (h3 : Bs w B ⟨A3, n3, c3⟩ l3) (hB : B ≤ w.heap.size) (T : TypeId) :
    Calls Try.prog 16 #[.slice (some ⟨w.heap.size, 0, none⟩) 3 3] (w.alloc (.cells #[.slice A1 n1 c1, .slice A2 n2 c2, .slice A3 n3 c3] T)) fun e w' => e = .returned (.int .u32 ((sum (l1 ++ l2 ++ l3) : Nat) : Int)) ∧ Gr (w.alloc (.cells #[.slice A1 n1 c1, .slice A2 n2 c2, .slice A3 n3 c3] T)) w' := by
  have h := sum_any _ 3 3 _ _ (w.alloc (.cells #[.slice A1 n1 c1, .slice A2 n2 c2, .slice A3 n3 c3] T)) (by rw [World.size_alloc]; exact rs_three h1 h2 h3 hB T)
  have e : [l1, l2, l3].flatten = l1 ++ l2 ++ l3 := by simp
  rw [e] at h
  exact h
theorem sum_oneG {A : Option Addr} {n c : Nat} {l : List Nat} {B : Nat} (w : World) (h : Bs w B ⟨A, n, c⟩ l) (hB : B ≤ w.heap.size) (T : TypeId) :
    Calls Try.prog 16 #[.slice (some ⟨w.heap.size, 0, none⟩) 1 1] (w.alloc (.cells #[.slice A n c] T)) fun e w' => e = .returned (.int .u32 ((sum l : Nat) : Int)) ∧ Gr (w.alloc (.cells #[.slice A n c] T)) w' := by
  have h1 := sum_one w h hB T
  exact h1.mono fun e w' ⟨he, hb⟩ => ⟨he, by unfold Gr; rw [World.size_alloc]; exact hb⟩

set_option maxRecDepth 100000 in
set_option maxHeartbeats 1000000 in
theorem mixparts_any (A1 A2 A3 : Option Addr) (n1 n2 n3 c1 c2 c3 : Nat) (l1 l2 l3 : List Nat) (w : World) (h1 : Bs w w.heap.size ⟨A1, n1, c1⟩ l1) (h2 : Bs w w.heap.size ⟨A2, n2, c2⟩ l2) (h3 : Bs w w.heap.size ⟨A3, n3, c3⟩ l3)
    (hsum : n1 + n2 + n3 ≤ 9223372036854775807) :
    Calls Try.prog 6 #[.slice A1 n1 c1, .slice A2 n2 c2, .slice A3 n3 c3] w fun e w' => e = .returned (.bool true) ∧ Gr w w' := by
  have hl1 : n1 = l1.length := h1.1
  have hl2 : n2 = l2.length := h2.1
  have hl3 : n3 = l3.length := h3.1
  have b1 := sum_lt h1.2.1
  have b2 := sum_lt h2.2.1
  have b3 := sum_lt h3.2.1
  have b12 : sum (l1 ++ l2) < 4294967296 := sum_lt fun x hx => (List.mem_append.1 hx).elim (h1.2.1 x) (h2.2.1 x)
  have b23 : sum (l2 ++ l3) < 4294967296 := sum_lt fun x hx => (List.mem_append.1 hx).elim (h2.2.1 x) (h3.2.1 x)
  have HJ1 : Hid (∀ W, Calls Try.prog 18 #[.int .u32 (sum l1 : Nat), .int .u32 (sum l2 : Nat), .int .i64 n2] W fun e w' => e = .returned (.int .u32 ((sum (l1 ++ l2) : Nat) : Int)) ∧ W = w') := fun W => by
    have := join_nat (sum l1) (sum l2) n2 W b1 b2 (by omega)
    rwa [hl2, joinN_sum, ← hl2] at this
  have HJ2 : Hid (∀ W, Calls Try.prog 18 #[.int .u32 (sum (l1 ++ l2) : Nat), .int .u32 (sum l3 : Nat), .int .i64 n3] W fun e w' => e = .returned (.int .u32 ((sum (l1 ++ l2 ++ l3) : Nat) : Int)) ∧ W = w') := fun W => by
    have := join_nat (sum (l1 ++ l2)) (sum l3) n3 W b12 b3 (by omega)
    rwa [hl3, joinN_sum, ← hl3] at this
  have HJ3 : Hid (∀ W, Calls Try.prog 18 #[.int .u32 (sum l2 : Nat), .int .u32 (sum l3 : Nat), .int .i64 n3] W fun e w' => e = .returned (.int .u32 ((sum (l2 ++ l3) : Nat) : Int)) ∧ W = w') := fun W => by
    have := join_nat (sum l2) (sum l3) n3 W b2 b3 (by omega)
    rwa [hl3, joinN_sum, ← hl3] at this
  have HJ4 : Hid (∀ W, Calls Try.prog 18 #[.int .u32 (sum l1 : Nat), .int .u32 (sum (l2 ++ l3) : Nat), .int .i64 ((n2 : Int) + (n3 : Int))] W fun e w' => e = .returned (.int .u32 ((sum (l1 ++ l2 ++ l3) : Nat) : Int)) ∧ W = w') := fun W => by
    have := join_nat (sum l1) (sum (l2 ++ l3)) (n2 + n3) W b1 b23 (by omega)
    have e : n2 + n3 = (l2 ++ l3).length := by rw [List.length_append, hl2, hl3]
    rw [e, joinN_sum, ← e, ← List.append_assoc] at this
    exact this
  have HJ5 : Hid (∀ W, Calls Try.prog 18 #[.int .u32 (sum l1 : Nat), .int .u32 0, .int .i64 0] W fun e w' => e = .returned (.int .u32 ((sum l1 : Nat) : Int)) ∧ W = w') := fun W => join_low (sum l1) 0 0 W (by decide)
  have HJ6 : Hid (∀ W, Calls Try.prog 18 #[.int .u32 0, .int .u32 (sum l1 : Nat), .int .i64 n1] W fun e w' => e = .returned (.int .u32 ((sum l1 : Nat) : Int)) ∧ W = w') := fun W => by
    have := join_nat 0 (sum l1) n1 W (by decide) b1 (by omega)
    rwa [hl1, joinN_zero, ← hl1] at this
  have hs1 : n1 ≤ c1 ∧ c1 ≤ 9223372036854775807 := ⟨h1.2.2.1, h1.2.2.2.1⟩
  have HS1 : Hid (∀ W, Gr w W → Bs W w.heap.size ⟨A1, n1, c1⟩ l1) := fun W hW => bs_gr h1 hW (Nat.le_refl _)
  have HS2 : Hid (∀ W, Gr w W → Bs W w.heap.size ⟨A2, n2, c2⟩ l2) := fun W hW => bs_gr h2 hW (Nat.le_refl _)
  have HS3 : Hid (∀ W, Gr w W → Bs W w.heap.size ⟨A3, n3, c3⟩ l3) := fun W hW => bs_gr h3 hW (Nat.le_refl _)
  clear h1 h2 h3 hl1 hl2 hl3 b12 b23 hs1
  generalize hx : sum l1 = x at *
  generalize hy : sum l2 = y at *
  generalize hz : sum l3 = z at *
  generalize hp : sum (l1 ++ l2) = p at *
  generalize hq : sum (l2 ++ l3) = q at *
  generalize hs : sum (l1 ++ l2 ++ l3) = s at *
  have HX := Lib.hid hx
  have HY := Lib.hid hy
  have HZ := Lib.hid hz
  have HSS := Lib.hid hs
  clear hx hy hz hp hq hs
  go_enter Try.func6, Try.ntmps6
  go_wp2_with fail
  refine (awake1 _).mono ?_
  rintro e w1 ⟨rfl, hg1⟩
  by_cases hbig : 20000 < n1 + n2 + n3
  · go_wp2_with fail
    go_ret
    exact ⟨rfl, hg1⟩
  · go_wp2_with fail
    refine (sum_oneG _ (HS1.out _ hg1) (gr_size hg1) _).mono ?_
    rintro e w2 ⟨rfl, hg2⟩
    have hg2' : Gr w w2 := Gr.step hg2 (hg1.alloc _)
    clear hg2
    rw [HX.out]
    go_wp2_with fail
    refine (sum_oneG _ (HS2.out _ hg2') (gr_size hg2') _).mono ?_
    rintro e w3 ⟨rfl, hg3⟩
    have hg3' : Gr w w3 := Gr.step hg3 (hg2'.alloc _)
    clear hg3
    rw [HY.out]
    go_wp2_with fail
    refine (sum_oneG _ (HS3.out _ hg3') (gr_size hg3') _).mono ?_
    rintro e w4 ⟨rfl, hg4⟩
    have hg4' : Gr w w4 := Gr.step hg4 (hg3'.alloc _)
    clear hg4
    rw [HZ.out]
    go_wp2_with fail
    refine (sum_three (HS1.out _ hg4') (HS2.out _ hg4') (HS3.out _ hg4') (gr_size hg4') _).mono ?_
    rintro e w5 ⟨rfl, hg5⟩
    have hg5' : Gr w w5 := Gr.step hg5 (hg4'.alloc _)
    clear hg5
    rw [HSS.out]
    go_wp2_with fail
    refine (HJ1.out _).mono ?_
    rintro e w' ⟨rfl, rfl⟩
    go_wp2_with fail
    refine (HJ2.out _).mono ?_
    rintro e w' ⟨rfl, rfl⟩
    go_wp2_with fail
    refine (HJ3.out _).mono ?_
    rintro e w' ⟨rfl, rfl⟩
    go_wp2_with fail
    refine (HJ4.out _).mono ?_
    rintro e w' ⟨rfl, rfl⟩
    go_wp2_with fail
    refine (sum_nil _).mono ?_
    rintro e w6 ⟨rfl, hg6⟩
    have hg6' : Gr w w6 := Gr.step hg6 hg5'
    clear hg6
    go_wp2_with fail
    refine (HJ5.out _).mono ?_
    rintro e w' ⟨rfl, rfl⟩
    go_wp2_with fail
    refine (sum_nil _).mono ?_
    rintro e w7 ⟨rfl, hg7⟩
    have hg7' : Gr w w7 := Gr.step hg7 hg6'
    clear hg7
    go_wp2_with fail
    refine (HJ6.out _).mono ?_
    rintro e w' ⟨rfl, rfl⟩
    go_wp2_with fail
    go_ret
    exact ⟨rfl, hg7'⟩
end Go.Proofs.Ytkdphgcbecldbaa
