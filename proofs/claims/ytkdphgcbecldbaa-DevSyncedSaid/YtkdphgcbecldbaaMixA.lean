/- Walks of mix.made, halves.half and halves.take: the table, and four or eight bits taken into a sum; no condition but that the numbers are of their kinds. -/
import Derived.Test.YtkdphgcbecldbaaRows
import Derived.Test.YtkdphgcbecldbaaMath
import Derived.WalkKit
import Derived.WalkSpells
import Derived.WalkLawsBesides
import Derived.Lib.Hide
import Derived.Handy
namespace Go.Proofs.Ytkdphgcbecldbaa
open Go.RowKit MixM

theorem and15 (n : Nat) (hn : n < 4294967296) : bits .and .u32 (n : Int) 15 = ((n % 16 : Nat) : Int) := by
  rw [show (15 : Int) = ((15 : Nat) : Int) from rfl, u32_and_nat n 15 hn (by omega), nat_mask4]
theorem and1 (n : Nat) (hn : n < 4294967296) : bits .and .u32 (n : Int) 1 = ((n % 2 : Nat) : Int) := by
  rw [show (1 : Int) = ((1 : Nat) : Int) from rfl, u32_and_nat n 1 hn (by omega), nat_mask1]

def tabC (k : Nat) : Array Value := ((List.range 16).map fun i => if i < k then Value.int .u32 ((tab[i]?.getD 0 : Nat) : Int) else .int .u32 0).toArray
theorem tabC_at (k i : Nat) (h : i < 16) : (tabC k)[i]? = some (if i < k then Value.int .u32 ((tab[i]?.getD 0 : Nat) : Int) else .int .u32 0) := by
  simp [tabC, h]

theorem tabC_open : ∃ c0 c1 c2 c3 c4 c5 c6 c7 c8 c9 c10 c11 c12 c13 c14 c15 : Int, tabC 16 = #[.int .u32 c0, .int .u32 c1, .int .u32 c2, .int .u32 c3, .int .u32 c4, .int .u32 c5, .int .u32 c6, .int .u32 c7, .int .u32 c8, .int .u32 c9, .int .u32 c10, .int .u32 c11, .int .u32 c12, .int .u32 c13, .int .u32 c14, .int .u32 c15] :=
  ⟨_, _, _, _, _, _, _, _, _, _, _, _, _, _, _, _, rfl⟩
theorem tabC_set (k : Nat) (h : k < 16) : (tabC k).setIfInBounds k (.int .u32 (shN 4 k : Nat)) = tabC (k + 1) := by
  apply Array.ext_getElem?
  intro i
  rw [Array.getElem?_setIfInBounds]
  have hs : ∀ k, (tabC k).size = 16 := by intro k; simp [tabC]
  by_cases hi : i < 16
  · rw [tabC_at _ i hi, tabC_at _ i hi, hs]
    by_cases e : k = i
    · subst e; simp [h, tab]
    · rw [if_neg e]
      by_cases h2 : i < k
      · rw [if_pos h2, if_pos (by omega)]
      · rw [if_neg h2, if_neg (by omega)]
  · have : ∀ k, (tabC k)[i]? = none := fun k => by rw [Array.getElem?_eq_none]; rw [hs]; omega
    rw [this, this]
    simp [hs]; omega
theorem sh_walk (n : Nat) (h : n < 4294967296) : bits .xor .u32 ((n : Int) / 2) (2197175160 * ((n : Int) % 2)) = ((sh n : Nat) : Int) := by
  have e : ((n : Int) / 2) = ((n / 2 : Nat) : Int) := by omega
  have e2 : (2197175160 * ((n : Int) % 2)) = ((2197175160 * (n % 2) : Nat) : Int) := by omega
  rw [e, e2, u32_xor_nat _ _ (by omega) (by omega)]
  unfold sh P
  rcases Nat.mod_two_eq_zero_or_one n with h | h <;> simp [h]

set_option maxHeartbeats 400000 in
theorem made_any (w : World) :
    Calls Try.prog 46 #[] w fun e w' => e = .returned (.agg (tabC 16)) ∧ Below w.heap.size w w' := by
  go_enter Try.func46, Try.ntmps46
  go_wp2
  go_loopw [1, 2, 3] (fun _ _ i wr => ∃ k : Nat, k ≤ 16 ∧ i = .int .i64 k ∧ wr = w.alloc (.cells (tabC k) 74)) (fun _ _ i _ => 16 - (intOf i).toNat)
  case atStart => 
    refine ⟨0, by omega, rfl, ?_⟩
    rfl
  case round =>
    obtain ⟨k, hk, rfl, rfl⟩ := hrel
    by_cases hlt : k < 16
    · go_wp2
      go_loop [2, 8] (fun n i => ∃ j : Nat, j ≤ 4 ∧ i = .int .i64 j ∧ n = .int .u32 (shN j k : Nat)) (fun _ i => 4 - (intOf i).toNat)
      case atStart => exact ⟨0, by omega, rfl, rfl⟩
      case round => 
        obtain ⟨j, hj, rfl, rfl⟩ := hrel
        have hb : shN j k < 4294967296 := shN_lt _ (by omega)
        have ha := and1 _ hb
        have hk0 : (tabC k)[k]? = some (.int .u32 0) := by rw [tabC_at k k hlt, if_neg (by omega)]
        by_cases hjl : j < 4
        · go_wp2
          refine ⟨⟨j + 1, by omega, by go_num, ?_⟩, by simp [intOf]; omega⟩
          rw [sh_walk _ hb, show shN (j + 1) k = sh (shN j k) by rw [shN_add]; rfl]
        · go_wp2
          obtain rfl : j = 4 := by omega
          refine ⟨⟨k + 1, by omega, by go_num, ?_⟩, by simp [intOf]; omega⟩
          rw [tabC_set k hlt]
    · obtain rfl : k = 16 := by omega
      obtain ⟨c0, c1, c2, c3, c4, c5, c6, c7, c8, c9, c10, c11, c12, c13, c14, c15, hC⟩ := tabC_open
      have HC := Lib.hid hC
      rw [hC]
      clear hC
      go_wp2
      refine bodyPost_ret (v := .agg #[.int .u32 c0, .int .u32 c1, .int .u32 c2, .int .u32 c3, .int .u32 c4, .int .u32 c5, .int .u32 c6, .int .u32 c7, .int .u32 c8, .int .u32 c9, .int .u32 c10, .int .u32 c11, .int .u32 c12, .int .u32 c13, .int .u32 c14, .int .u32 c15]) (by simp [results, Try.results46, go_sem]) rfl ⟨?_, ?_⟩
      · rw [HC.out]
      · exact (Below.refl _ _).alloc (Nat.le_refl _) _

/-- the table lies at block b -/
def TabAt (w : World) (b : Nat) : Prop := ∀ i, i < 16 → w.cell? ⟨b, i, none⟩ = some (.int .u32 ((tab[i]?.getD 0 : Nat) : Int))
theorem TabAt.below {w w' : World} {B b : Nat} (h : TabAt w b) (hb : Below B w w') (hlt : b < B) : TabAt w' b := fun i hi => (hb.cell hlt).trans (h i hi)
theorem tab_lt (i : Nat) : tab[i]?.getD 0 < 4294967296 := by
  by_cases h : i < 16
  · simp only [tab, List.getElem?_map, List.getElem?_range h, Option.map_some, Option.getD_some]
    exact shN_lt _ (by omega)
  · rw [List.getElem?_eq_none (by simp [tab]; omega)]; decide

set_option maxHeartbeats 400000 in
theorem half_any (b : Nat) (n : Nat) (w : World) (hn : n < 4294967296) (ht : TabAt w b) :
    Calls Try.prog 47 #[.pointer (some ⟨b, 0, none⟩), .int .u32 n] w fun e w' => e = .returned (.int .u32 ((shN 4 n : Nat) : Int)) ∧ w = w' := by
  have h1 := and15 n hn
  have h2 : n % 16 < 16 := Nat.mod_lt _ (by decide)
  have hc := ht _ h2
  have h4 : bits .xor .u32 ((n : Int) / 16) ((tab[n % 16]?.getD 0 : Nat) : Int) = ((shN 4 n : Nat) : Int) := by
    have e : ((n : Int) / 16) = ((n / 16 : Nat) : Int) := by omega
    rw [e, u32_xor_nat _ _ (by omega) (tab_lt _), half_eq]
  have H4 := Lib.hid h4
  clear h4 ht
  go_enter Try.func47, Try.ntmps47
  go_wp2
  go_ret
  exact ⟨by rw [H4.out]; rfl, rfl⟩

set_option maxHeartbeats 400000 in
theorem take_any (b : Nat) (n x : Nat) (w : World) (hn : n < 4294967296) (hx : x < 256) (ht : TabAt w b) :
    Calls Try.prog 48 #[.pointer (some ⟨b, 0, none⟩), .int .u32 n, .int .u8 x] w fun e w' => e = .returned (.int .u32 ((MixM.take n x : Nat) : Int)) ∧ w = w' := by
  have hl : n ^^^ x < 4294967296 := xor_lt hn (by omega)
  have h4 : bits .xor .u32 (n : Int) (x : Int) = ((n ^^^ x : Nat) : Int) := u32_xor_nat _ _ hn (by omega)
  have HT := Lib.hid ht
  clear ht
  go_enter Try.func48, Try.ntmps48
  go_wp2_with fail
  refine (half_any b (n ^^^ x) _ hl HT.out).mono ?_
  rintro e w' ⟨rfl, rfl⟩
  go_wp2_with fail
  refine (half_any b (shN 4 (n ^^^ x)) _ (shN_lt _ hl) HT.out).mono ?_
  rintro e w' ⟨rfl, rfl⟩
  go_wp2_with fail
  go_ret
  exact ⟨by rw [MixM.take, show 8 = 4 + 4 from rfl, shN_add]; rfl, rfl⟩
end Go.Proofs.Ytkdphgcbecldbaa
