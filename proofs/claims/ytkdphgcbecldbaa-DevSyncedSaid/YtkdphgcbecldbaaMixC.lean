/- Walks of mix.times and mix.Join: products of polynomials, sums joined; any numbers of their kinds. -/
import Derived.Test.YtkdphgcbecldbaaMixA
namespace Go.Proofs.Ytkdphgcbecldbaa
open Go.RowKit MixM

theorem and_bit1 {a k : Nat} (ha : a < 4294967296) (hk : k < 32) (h : a.testBit k = true) : bits .and .u32 (a : Int) ((2 ^ k : Nat) : Int) = ((2 ^ k : Nat) : Int) := by
  have hl : 2 ^ k < 4294967296 := Nat.lt_of_lt_of_le (Nat.pow_lt_pow_right (by decide) hk) (by decide)
  rw [u32_and_nat _ _ ha hl]
  congr 1
  rw [nat_bit]
  rw [Nat.testBit_eq_decide_div_mod_eq, decide_eq_true_eq] at h
  rw [h, Nat.one_mul]
theorem and_bit0 {a k : Nat} (ha : a < 4294967296) (hk : k < 32) (h : a.testBit k = false) : bits .and .u32 (a : Int) ((2 ^ k : Nat) : Int) = 0 := by
  have hl : 2 ^ k < 4294967296 := Nat.lt_of_lt_of_le (Nat.pow_lt_pow_right (by decide) hk) (by decide)
  rw [u32_and_nat _ _ ha hl]
  rw [nat_bit]
  rw [Nat.testBit_eq_decide_div_mod_eq, decide_eq_false_iff_not] at h
  rw [show a / 2 ^ k % 2 = 0 by omega, Nat.zero_mul]
  rfl
theorem tm_lt (k : Nat) {a b : Nat} (hb : b < 4294967296) : tm k a b < 4294967296 := by
  induction k generalizing b with
  | zero => rw [tm]; decide
  | succ k ih =>
    rw [tm]
    refine xor_lt ?_ (ih (sh_lt hb))
    unfold bitOf; split
    · exact hb
    · decide

def halfPow : Nat → Nat
  | 0 => 0
  | k + 1 => 2 ^ k
set_option maxHeartbeats 400000 in
theorem times_any (a b : Nat) (w : World) (ha : a < 4294967296) (hb : b < 4294967296) :
    Calls Try.prog 50 #[.int .u32 a, .int .u32 b] w fun e w' => e = .returned (.int .u32 ((tm 32 a b : Nat) : Int)) ∧ w = w' := by
  go_enter Try.func50, Try.ntmps50
  go_wp2
  go_loop [1, 4, 5] (fun vb vn vt => ∃ (k x n B : Nat), k ≤ 32 ∧ Hid (B = halfPow k) ∧ B < 4294967296 ∧ x < 4294967296 ∧ n < 4294967296 ∧ vb = .int .u32 x ∧ vn = .int .u32 n ∧ vt = .int .u32 B ∧ Hid (n ^^^ tm k a x = tm 32 a b)) (fun _ _ t => (intOf t).toNat)
  case atStart => exact ⟨32, b, 0, 2147483648, by omega, rfl, by omega, hb, by omega, rfl, rfl, rfl, Nat.zero_xor _⟩
  case round =>
    obtain ⟨k, x, n, B, hk, HB, hBl, hx, hn, rfl, rfl, rfl, HR⟩ := hrel
    rcases k with _ | k
    · obtain rfl : B = 0 := HB.out
      go_wp2
      go_ret
      refine ⟨?_, rfl⟩
      rw [← HR.out, tm, Nat.xor_zero]; rfl
    · have hBk : B = 2 ^ k := HB.out
      have hpos : 0 < B := by rw [hBk]; exact Nat.two_pow_pos k
      have hsx := sh_walk x hx
      have hB2 : B / 2 = halfPow k := by
        rw [hBk]
        cases k with
        | zero => rfl
        | succ k => show 2 ^ (k + 1) / 2 = 2 ^ k; rw [Nat.pow_succ]; omega
      have hRel : n ^^^ (bitOf a k x ^^^ tm k a (sh x)) = tm 32 a b := HR.out
      have HB2 := Lib.hid hB2
      have HRel := Lib.hid hRel
      have ha1 := and1 x hx
      clear hB2 hRel HR HB
      have hne : ((B : Int) != 0) = true := by simp; omega
      by_cases ht : a.testBit k = true
      · have e1 := and_bit1 ha (show k < 32 by omega) ht
        rw [← hBk] at e1
        have hxor : bits .xor .u32 (n : Int) (x : Int) = ((n ^^^ x : Nat) : Int) := u32_xor_nat _ _ hn hx
        have HT := Lib.hid ht
        clear hBk ht
        go_wp2
        go_round
        case rel => 
          have e3 : n ^^^ x ^^^ tm k a (sh x) = tm 32 a b := by rw [← HRel.out, bitOf, if_pos HT.out, Nat.xor_assoc]
          exact ⟨k, sh x, n ^^^ x, B / 2, Nat.le_of_succ_le hk, HB2, by omega, sh_lt hx, xor_lt hn hx, rfl, rfl, by go_num, e3⟩
        case measure => simp [intOf]; omega
      · have e1 := and_bit0 ha (show k < 32 by omega) (by simpa using ht)
        rw [← hBk] at e1
        have HT := Lib.hid ht
        clear hBk ht
        go_wp2
        go_round
        case rel => 
          have e3 : n ^^^ tm k a (sh x) = tm 32 a b := by rw [← HRel.out, bitOf, if_neg HT.out, Nat.zero_xor]
          exact ⟨k, sh x, n, B / 2, Nat.le_of_succ_le hk, HB2, by omega, sh_lt hx, hn, rfl, rfl, by go_num, e3⟩
        case measure => simp [intOf]; omega
theorem and1_i64 (n : Nat) (hn : n < 9223372036854775808) : bits .and .i64 (n : Int) 1 = ((n % 2 : Nat) : Int) := by
  rw [show (1 : Int) = ((1 : Nat) : Int) from rfl]
  have hx : n &&& 1 < 2 ^ 63 := Nat.and_lt_two_pow _ (by omega)
  have e1 : (BitVec.ofInt 64 (n : Int)).toNat = n := by rw [BitVec.ofInt_natCast, BitVec.toNat_ofNat]; exact Nat.mod_eq_of_lt (by omega)
  have e2 : (BitVec.ofInt 64 ((1 : Nat) : Int)).toNat = 1 := by decide
  show IntKind.i64.wrap ((BitVec.ofInt 64 (n : Int) &&& BitVec.ofInt 64 ((1 : Nat) : Int)).toNat : Int) = _
  rw [BitVec.toNat_and, e1, e2, IntKind.wrap_i64, nat_mask1]
  omega
set_option maxHeartbeats 400000 in
theorem join_low (a b : Nat) (m : Int) (w : World) (hm : m < 1) :
    Calls Try.prog 18 #[.int .u32 a, .int .u32 b, .int .i64 m] w fun e w' => e = .returned (.int .u32 a) ∧ w = w' := by
  go_enter Try.func18, Try.ntmps18
  go_wp2
  go_ret
  exact ⟨rfl, rfl⟩
set_option maxHeartbeats 400000 in
theorem join_any (a b m : Nat) (w : World) (ha : a < 4294967296) (hb : b < 4294967296) (hm1 : 1 ≤ m) (hm : m ≤ 9223372036854775807) :
    Calls Try.prog 18 #[.int .u32 a, .int .u32 b, .int .i64 m] w fun e w' => e = .returned (.int .u32 ((shN (8 * m) a ^^^ b : Nat) : Int)) ∧ w = w' := by
  go_enter Try.func18, Try.ntmps18
  go_wp2
  go_loop [0, 2, 7] (fun va vm vp => ∃ (k x e p : Nat), k ≤ 9223372036854775807 ∧ x < 4294967296 ∧ p < 4294967296 ∧ Hid (p = shN e E) ∧ va = .int .u32 x ∧ vm = .int .i64 k ∧ vp = .int .u32 p ∧ Hid (shN (e * k) x = shN (8 * m) a)) (fun _ vm _ => (intOf vm).toNat)
  case atStart => exact ⟨m, a, 8, 8388608, hm, ha, by omega, (by show _ = _; decide), rfl, rfl, rfl, rfl⟩
  case round =>
    obtain ⟨k, x, e, p, hk, hx, hpl, HP, rfl, rfl, rfl, HR⟩ := hrel
    have hand := and1_i64 k (by omega)
    have htp : tm 32 p p < 4294967296 := tm_lt 32 hpl
    have hpp : tm 32 p p = shN (e + e) E := by rw [HP.out, tm_shN _ _ (by rw [← HP.out]; exact hpl), shN_add]
    have HPP := Lib.hid hpp
    clear hpp
    by_cases hk0 : k = 0
    · subst hk0
      have hxor : bits .xor .u32 (x : Int) (b : Int) = ((shN (8 * m) a ^^^ b : Nat) : Int) := by
        rw [u32_xor_nat _ _ hx hb, ← HR.out, Nat.mul_zero]; rfl
      go_wp2
      go_ret
      exact ⟨rfl, rfl⟩
    · rcases Nat.mod_two_eq_zero_or_one k with h2 | h2
      · have hr : shN ((e + e) * (k / 2)) x = shN (8 * m) a := by
          rw [← HR.out]; congr 1; rw [← Nat.mul_two, Nat.mul_assoc]; congr 1; omega
        have hand' : bits .and .i64 (k : Int) 1 = 0 := by rw [hand, h2]; rfl
        have HRR := Lib.hid hr
        clear hr hand h2
        go_wp2_with fail
        refine (times_any p p _ hpl hpl).mono ?_
        rintro e' w' ⟨rfl, rfl⟩
        go_wp2_with fail
        go_round
        case rel => exact ⟨k / 2, x, e + e, _, by omega, hx, htp, HPP, rfl, by go_num, rfl, HRR⟩
        case measure => simp [intOf]; omega
      · have hr : shN ((e + e) * (k / 2)) (tm 32 p x) = shN (8 * m) a := by
          rw [HP.out, tm_shN _ _ hx, ← HR.out, ← shN_add]; congr 1
          rw [← Nat.mul_two, Nat.mul_assoc, Nat.add_comm, ← Nat.mul_succ]; congr 1; omega
        have hand' : bits .and .i64 (k : Int) 1 = 1 := by rw [hand, h2]; rfl
        have HRR := Lib.hid hr
        clear hr hand h2
        go_wp2_with fail
        refine (times_any p x _ hpl hx).mono ?_
        rintro e' w' ⟨rfl, rfl⟩
        go_wp2_with fail
        refine (times_any p p _ hpl hpl).mono ?_
        rintro e' w' ⟨rfl, rfl⟩
        go_wp2_with fail
        go_round
        case rel => exact ⟨k / 2, _, e + e, _, by omega, tm_lt 32 hx, htp, HPP, rfl, by go_num, rfl, HRR⟩
        case measure => simp [intOf]; omega
end Go.Proofs.Ytkdphgcbecldbaa
