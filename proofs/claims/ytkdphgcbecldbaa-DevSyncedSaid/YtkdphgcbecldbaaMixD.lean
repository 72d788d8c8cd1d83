/- Walks of mix.held and mix.Fits: whether bytes have a sum; any bytes. -/
import Derived.Test.YtkdphgcbecldbaaMixB
import Derived.Test.YtkdphgcbecldbaaMixC
import Derived.Test.YtkdphgcbecldbaaErrs
namespace Go.Proofs.Ytkdphgcbecldbaa
open Go.RowKit MixM

/-- one slice in a new block, as a row of one -/
theorem rs_one {w : World} {B : Nat} {A : Option Addr} {n c : Nat} {l : List Nat} (h : Bs w B ⟨A, n, c⟩ l) (hB : B ≤ w.heap.size) (T : TypeId) :
    Rs (w.alloc (.cells #[.slice A n c] T)) (w.heap.size + 1) ⟨some ⟨w.heap.size, 0, none⟩, 1, 1⟩ [⟨A, n, c⟩] [l] := by
  have hb : Below w.heap.size w (w.alloc (.cells #[.slice A n c] T)) := (Below.refl _ _).alloc (Nat.le_refl _) _
  refine ⟨rfl, rfl, ⟨Nat.le_refl _, by simp only; omega, fun _ => ⟨w.heap.size, 0, rfl, by omega, fun i hi => ?_⟩⟩, fun i hi => ?_⟩
  · obtain rfl : i = 0 := by simp only at hi; omega
    exact cell_of_row (w.alloc (.cells #[.slice A n c] T)) w.heap.size 0 _ _ _ (heap_alloc_new w _)
  · obtain rfl : i = 0 := by simp only at hi; omega
    exact (h.below hb hB).more (by omega)
theorem sum_lt {l : List Nat} (h : Small l) : sum l < 4294967296 := xor_lt (run_lt (by decide) h) (by decide)
/-- the sum of one slice, laid in a new block -/
theorem sum_one {A : Option Addr} {n c : Nat} {l : List Nat} {B : Nat} (w : World) (h : Bs w B ⟨A, n, c⟩ l) (hB : B ≤ w.heap.size) (T : TypeId) :
    Calls Try.prog 16 #[.slice (some ⟨w.heap.size, 0, none⟩) 1 1] (w.alloc (.cells #[.slice A n c] T)) fun e w' => e = .returned (.int .u32 ((sum l : Nat) : Int)) ∧ Below (w.heap.size + 1) (w.alloc (.cells #[.slice A n c] T)) w' := by
  have h1 := sum_any _ 1 1 [⟨A, n, c⟩] [l] (w.alloc (.cells #[.slice A n c] T)) (by rw [World.size_alloc]; exact rs_one h hB T)
  rw [List.flatten_singleton, World.size_alloc] at h1
  exact h1

set_option maxHeartbeats 400000 in
theorem held_yes (A : Option Addr) (n c : Nat) (l : List Nat) (s B : Nat) (w : World) (h : Bs w B ⟨A, n, c⟩ l) (hB : B ≤ w.heap.size) (hs : sum l = s) :
    Calls Try.prog 45 #[.slice A n c, .int .u32 s] w fun e w' => e = .returned .nilIface ∧ Below w.heap.size w w' := by
  have H := Lib.hid h
  subst hs
  clear h
  go_enter Try.func45, Try.ntmps45
  go_wp2_with fail
  refine (sum_one _ H.out hB _).mono ?_
  rintro e w1 ⟨rfl, hb⟩
  go_wp2_with fail
  go_ret
  exact ⟨rfl, ((Below.refl _ _).alloc (Nat.le_refl _) _).trans (hb.mono (by omega))⟩
set_option maxHeartbeats 400000 in
theorem held_no (A : Option Addr) (n c : Nat) (l : List Nat) (s B : Nat) (w : World) (h : Bs w B ⟨A, n, c⟩ l) (hB : B ≤ w.heap.size) (hs : sum l ≠ s) :
    Calls Try.prog 45 #[.slice A n c, .int .u32 s] w fun e w' => e = .returned (.iface 116 (.agg #[.int .u32 s, .int .u32 (sum l : Nat), .int .i64 5])) ∧ Below w.heap.size w w' := by
  have H := Lib.hid h
  have e' : (((sum l : Nat) : Int) != (s : Int)) = true := by simp; omega
  clear h
  go_enter Try.func45, Try.ntmps45
  go_wp2_with fail
  refine (sum_one _ H.out hB _).mono ?_
  rintro e w1 ⟨rfl, hb⟩
  go_wp2_with fail
  go_ret
  exact ⟨rfl, ((Below.refl _ _).alloc (Nat.le_refl _) _).trans (hb.mono (by omega))⟩
set_option maxHeartbeats 400000 in
theorem fits_yes (A : Option Addr) (n c : Nat) (l : List Nat) (s B : Nat) (w : World) (h : Bs w B ⟨A, n, c⟩ l) (hB : B ≤ w.heap.size) (hs : sum l = s) :
    Calls Try.prog 13 #[.slice A n c, .int .u32 s] w fun e w' => e = .returned (.int .i64 0) ∧ Below w.heap.size w w' := by
  have H := Lib.hid h
  have HS := Lib.hid hs
  clear h hs
  go_enter Try.func13, Try.ntmps13
  go_wp2_with fail
  refine (held_yes _ _ _ _ _ _ _ H.out hB HS.out).mono ?_
  rintro e w1 ⟨rfl, hb⟩
  go_wp2_with fail
  refine (is_mix_nil _ _).mono ?_
  rintro e w2 ⟨rfl, rfl⟩
  go_wp2_with fail
  go_ret
  exact ⟨rfl, hb⟩
set_option maxHeartbeats 400000 in
theorem fits_no (A : Option Addr) (n c : Nat) (l : List Nat) (s B : Nat) (w : World) (h : Bs w B ⟨A, n, c⟩ l) (hB : B ≤ w.heap.size) (hs : sum l ≠ s) :
    Calls Try.prog 13 #[.slice A n c, .int .u32 s] w fun e w' => e = .returned (.int .i64 5) ∧ Below w.heap.size w w' := by
  have H := Lib.hid h
  have HS := Lib.hid hs
  clear h hs
  go_enter Try.func13, Try.ntmps13
  go_wp2_with fail
  refine (held_no _ _ _ _ _ _ _ H.out hB HS.out).mono ?_
  rintro e w1 ⟨rfl, hb⟩
  go_wp2_with fail
  refine (is_mix_wrong _ _ _ _).mono ?_
  rintro e w2 ⟨rfl, hb2⟩
  go_wp2_with fail
  go_ret
  exact ⟨rfl, hb.trans (hb2.mono hb.size)⟩
def fitsN (l : List Nat) (s : Nat) : Int := if sum l = s then 0 else 5
/-- whether bytes have a sum -/
theorem fits_any (A : Option Addr) (n c : Nat) (l : List Nat) (s B : Nat) (w : World) (h : Bs w B ⟨A, n, c⟩ l) (hB : B ≤ w.heap.size) :
    Calls Try.prog 13 #[.slice A n c, .int .u32 s] w fun e w' => e = .returned (.int .i64 (fitsN l s)) ∧ Below w.heap.size w w' := by
  unfold fitsN
  by_cases e : sum l = s
  · rw [if_pos e]; exact fits_yes A n c l s B w h hB e
  · rw [if_neg e]; exact fits_no A n c l s B w h hB e
end Go.Proofs.Ytkdphgcbecldbaa
