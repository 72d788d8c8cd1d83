/- Walks of the document's answers shift, Sum, Of, Join, Fits of layer 1; any parts, any numbers of their kinds. -/
import Derived.Test.YtkdphgcbecldbaaMixD
namespace Go.Proofs.Ytkdphgcbecldbaa
open Go.RowKit MixM

set_option maxHeartbeats 400000 in
theorem shift_any (n : Nat) (w : World) (hn : n < 4294967296) :
    Calls Try.prog 49 #[.int .u32 n] w fun e w' => e = .returned (.int .u32 ((sh n : Nat) : Int)) ∧ w = w' := by
  rcases Nat.mod_two_eq_zero_or_one n with h | h
  · have hs : sh n = n / 2 := by unfold sh; rw [if_neg (by omega)]
    have h1 : ((n : Int) % 2 == 1) = false := by simp; omega
    go_enter Try.func49, Try.ntmps49
    go_wp2
    go_ret
    exact ⟨by rw [hs]; rfl, rfl⟩
  · have hs : sh n = (n / 2) ^^^ P := by unfold sh; rw [if_pos h]
    have h1 : ((n : Int) % 2 == 1) = true := by simp; omega
    have h2 : bits .xor .u32 ((n : Int) / 2) 2197175160 = ((sh n : Nat) : Int) := by
      rw [hs, show ((n : Int) / 2) = ((n / 2 : Nat) : Int) by omega, show (2197175160 : Int) = ((P : Nat) : Int) from rfl, u32_xor_nat _ _ (by omega) (by decide)]
    clear hs
    go_enter Try.func49, Try.ntmps49
    go_wp2
    go_ret
    exact ⟨rfl, rfl⟩

set_option maxRecDepth 100000 in
set_option maxHeartbeats 1000000 in
theorem refsum_any (A : Option Addr) (n c B : Nat) (ss : List Sl) (ls : List (List Nat)) (w : World) (h : Rs w B ⟨A, n, c⟩ ss ls) :
    Calls Try.prog 17 #[.slice A n c] w fun e w' => e = .returned (.int .u32 ((sum ls.flatten : Nat) : Int)) ∧ w = w' := by
  have H := Lib.hid h
  have hnc : n ≤ c := h.2.2.1.1
  have hcm : c ≤ 9223372036854775807 := h.2.2.1.2.1
  have hF : ∀ k, run F (ls.take k).flatten < 4294967296 := fun k => run_lt (by decide) (small_flat h k)
  clear h
  go_enter Try.func17, Try.ntmps17
  go_wp2
  go_loop [3, 4] (fun v i => ∃ k : Nat, k ≤ n ∧ i = .int .i64 k ∧ v = .int .u32 (run F (ls.take k).flatten : Nat)) (fun _ i => n - (intOf i).toNat)
  case atStart => exact ⟨0, by omega, rfl, rfl⟩
  case round =>
    obtain ⟨k, hk, rfl, rfl⟩ := hrel
    by_cases hkn : k < n
    · have hRk := H.out.2.2.2 k hkn
      obtain ⟨b, o, hA, hbB, hcell⟩ := H.out.2.2.1.2.2 (by omega : 0 < n)
      have hck : w.cell? ⟨b, o + k, none⟩ = some (ss.getD k ⟨none, 0, 0⟩).v := hcell k hkn
      simp only at hA
      subst hA
      generalize hl : ls.getD k [] = l at hRk
      generalize ss.getD k ⟨none, 0, 0⟩ = s at hRk hck
      obtain ⟨A', n', c'⟩ := s
      simp only [Sl.v] at hck
      have HR := Lib.hid hRk
      have HL := Lib.hid hl
      have hn' : n' ≤ c' := hRk.2.2.1
      have hc' : c' ≤ 9223372036854775807 := hRk.2.2.2.1
      have hr0 := hF k
      generalize hr : run F (ls.take k).flatten = r0 at hr0
      have HRun := Lib.hid hr
      have hll := hRk.1
      have HLL := Lib.hid hll
      clear hr hRk hcell hl hll hF
      go_wp2
      go_loop [3, 5] (fun v i => ∃ j : Nat, j ≤ n' ∧ i = .int .i64 j ∧ v = .int .u32 (run r0 (l.take j) : Nat)) (fun _ i => n' - (intOf i).toNat)
      case atStart => exact ⟨0, by omega, rfl, rfl⟩
      case round =>
        obtain ⟨j, hj, rfl, rfl⟩ := hrel
        have hq0 : run r0 (l.take j) < 4294967296 := run_lt hr0 fun x hx => HR.out.2.1 x (List.mem_of_mem_take hx)
        generalize hq : run r0 (l.take j) = q at hq0
        have HQ := Lib.hid hq
        clear hq
        by_cases hjn : j < n'
        · obtain ⟨b1, o1, hA1, hb1, hx⟩ := HR.out.at_ (show 0 < n' by omega)
          have hxj : w.cell? ⟨b1, o1 + j, none⟩ = some (.int .u8 ((l.getD j 0 : Nat) : Int)) := hx j hjn
          have hx8 := HR.out.2.1.at_ j
          simp only at hA1
          subst hA1
          generalize hxe : l.getD j 0 = x at hxj hx8
          have HX := Lib.hid hxe
          have hxor : bits .xor .u32 (q : Int) (x : Int) = ((q ^^^ x : Nat) : Int) := u32_xor_nat _ _ hq0 (by omega)
          have hqx : q ^^^ x < 4294967296 := xor_lt hq0 (by omega)
          clear hxe hx
          go_wp2
          go_loop [3, 6] (fun v i => ∃ r : Nat, r ≤ 8 ∧ i = .int .i64 r ∧ v = .int .u32 (shN r (q ^^^ x) : Nat)) (fun _ i => 8 - (intOf i).toNat)
          case atStart => exact ⟨0, by omega, rfl, rfl⟩
          case round =>
            obtain ⟨r, hr, rfl, rfl⟩ := hrel
            have hs := shN_lt r hqx
            by_cases hr8 : r < 8
            · go_wp2_with fail
              refine (shift_any _ _ hs).mono ?_
              rintro e w' ⟨rfl, rfl⟩
              go_wp2_with fail
              go_round
              case rel => exact ⟨r + 1, by omega, by go_num, by rw [shN_add]; rfl⟩
              case measure => simp [intOf]; omega
            · obtain rfl : r = 8 := by omega
              go_wp2_with fail
              go_round
              case rel => exact ⟨j + 1, by omega, by go_num, by
                rw [List.take_succ_eq_append_getElem (by have : n' = l.length := HLL.out; omega), run_append, HQ.out]
                have hx2 := HX.out
                rw [List.getD_eq_getElem?_getD, List.getElem?_eq_getElem (by have : n' = l.length := HLL.out; omega), Option.getD_some] at hx2
                rw [hx2]; rfl⟩
              case measure => simp [intOf]; omega
        · obtain rfl : j = n' := by omega
          go_wp2_with fail
          go_round
          case rel => exact ⟨k + 1, by omega, by go_num, by
            rw [sum_step HRun.out HL.out (List.append_nil l).symm (by have := H.out.1; have := H.out.2.1; simp only at *; omega), run_nil, ← HQ.out, List.take_of_length_le (Nat.le_of_eq HLL.out.symm)]⟩
          case measure => simp [intOf]; omega
    · obtain rfl : k = n := by omega
      have hk1 := hF k
      have hl := H.out.1
      simp only at hl
      have hfl : ls.take k = ls := List.take_of_length_le (by rw [← H.out.2.1]; omega)
      rw [hfl] at hk1 ⊢
      clear hl hfl
      have hsum : ((sum ls.flatten : Nat) : Int) = 4294967295 - ((run F ls.flatten : Nat) : Int) := by
        unfold sum
        have : ∀ r : Nat, r < 4294967296 → ((r ^^^ F : Nat) : Int) = 4294967295 - (r : Int) := by
          intro r hr
          have e : r ^^^ F = 4294967295 - r := by
            have h1 := Nat.xor_comm r F
            have h2 : r < 2 ^ 32 := hr
            have := BitVec.toNat_not (x := BitVec.ofNat 32 r)
            have h3 : (~~~ (BitVec.ofNat 32 r)).toNat = (BitVec.allOnes 32 ^^^ BitVec.ofNat 32 r).toNat := by rw [BitVec.not_def]
            rw [this, BitVec.toNat_xor, BitVec.toNat_allOnes, BitVec.toNat_ofNat, Nat.mod_eq_of_lt h2] at h3
            rw [h1]
            show 4294967295 ^^^ r = _
            simp only [Nat.reducePow, Nat.reduceSub] at h3
            exact h3.symm
          rw [e]; omega
        exact this _ hk1
      have HSUM := Lib.hid hsum
      clear hsum
      go_wp2
      go_ret
      exact ⟨by rw [HSUM.out]; rfl, rfl⟩

set_option maxHeartbeats 400000 in
theorem of_any (A : Option Addr) (n c B : Nat) (l : List Nat) (w : World) (h : Bs w B ⟨A, n, c⟩ l) (hB : B ≤ w.heap.size) :
    Calls Try.prog 15 #[.slice A n c] w fun e w' => e = .returned (.int .u32 ((sum l : Nat) : Int)) ∧ Below w.heap.size w w' := by
  have H := Lib.hid (rs_one h hB 24)
  clear h
  go_enter Try.func15, Try.ntmps15
  go_wp2_with fail
  refine (refsum_any _ _ _ _ _ _ _ H.out).mono ?_
  rintro e w' ⟨rfl, rfl⟩
  rw [List.flatten_singleton]
  go_wp2_with fail
  go_ret
  exact ⟨rfl, (Below.refl _ _).alloc (Nat.le_refl _) _⟩
set_option maxHeartbeats 400000 in
theorem reffits_any (A : Option Addr) (n c B : Nat) (l : List Nat) (s : Nat) (w : World) (h : Bs w B ⟨A, n, c⟩ l) (hB : B ≤ w.heap.size) :
    Calls Try.prog 14 #[.slice A n c, .int .u32 s] w fun e w' => e = .returned (.int .i64 (fitsN l s)) ∧ Below w.heap.size w w' := by
  have H := Lib.hid h
  clear h
  by_cases e : sum l = s
  · have e' : (((sum l : Nat) : Int) != (s : Int)) = false := by simp [e]
    have e2 : fitsN l s = 0 := if_pos e
    rw [e2]
    clear e e2
    go_enter Try.func14, Try.ntmps14
    go_wp2_with fail
    refine (of_any _ _ _ _ _ _ H.out hB).mono ?_
    rintro e w' ⟨rfl, hb⟩
    go_wp2_with fail
    go_ret
    exact ⟨rfl, hb⟩
  · have e' : (((sum l : Nat) : Int) != (s : Int)) = true := by simp; omega
    have e2 : fitsN l s = 5 := if_neg e
    rw [e2]
    clear e e2
    go_enter Try.func14, Try.ntmps14
    go_wp2_with fail
    refine (of_any _ _ _ _ _ _ H.out hB).mono ?_
    rintro e w' ⟨rfl, hb⟩
    go_wp2_with fail
    go_ret
    exact ⟨rfl, hb⟩
set_option maxHeartbeats 400000 in
theorem refjoin_low (a b : Nat) (m : Int) (w : World) (hm : m < 1) :
    Calls Try.prog 19 #[.int .u32 a, .int .u32 b, .int .i64 m] w fun e w' => e = .returned (.int .u32 a) ∧ w = w' := by
  go_enter Try.func19, Try.ntmps19
  go_wp2
  go_ret
  exact ⟨rfl, rfl⟩
set_option maxHeartbeats 400000 in
theorem refjoin_any (a b m : Nat) (w : World) (ha : a < 4294967296) (hb : b < 4294967296) (hm1 : 1 ≤ m) (hm : m ≤ 9223372036854775807) :
    Calls Try.prog 19 #[.int .u32 a, .int .u32 b, .int .i64 m] w fun e w' => e = .returned (.int .u32 ((shN (8 * m) a ^^^ b : Nat) : Int)) ∧ w = w' := by
  go_enter Try.func19, Try.ntmps19
  go_wp2
  go_loop [7, 8] (fun v i => ∃ k : Nat, k ≤ m ∧ i = .int .i64 k ∧ v = .int .u32 (shN (8 * k) a : Nat)) (fun _ i => m - (intOf i).toNat)
  case atStart => exact ⟨0, by omega, rfl, rfl⟩
  case round =>
    obtain ⟨k, hk, rfl, rfl⟩ := hrel
    have hx := shN_lt (8 * k) ha
    by_cases hkm : k < m
    · go_wp2
      go_loop [7, 9] (fun v i => ∃ r : Nat, r ≤ 8 ∧ i = .int .i64 r ∧ v = .int .u32 (shN r (shN (8 * k) a) : Nat)) (fun _ i => 8 - (intOf i).toNat)
      case atStart => exact ⟨0, by omega, rfl, rfl⟩
      case round =>
        obtain ⟨r, hr, rfl, rfl⟩ := hrel
        have hs := shN_lt r hx
        by_cases hr8 : r < 8
        · go_wp2_with fail
          refine (shift_any _ _ hs).mono ?_
          rintro e w' ⟨rfl, rfl⟩
          go_wp2_with fail
          go_round
          case rel => exact ⟨r + 1, by omega, by go_num, by rw [shN_add r 1]; rfl⟩
          case measure => simp [intOf]; omega
        · obtain rfl : r = 8 := by omega
          go_wp2_with fail
          go_round
          case rel => exact ⟨k + 1, by omega, by go_num, by rw [← shN_add]; rfl⟩
          case measure => simp [intOf]; omega
    · obtain rfl : k = m := by omega
      have hxor : bits .xor .u32 ((shN (8 * k) a : Nat) : Int) (b : Int) = ((shN (8 * k) a ^^^ b : Nat) : Int) := u32_xor_nat _ _ hx hb
      go_wp2
      go_ret
      exact ⟨rfl, rfl⟩
end Go.Proofs.Ytkdphgcbecldbaa
