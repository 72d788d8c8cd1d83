/- Bits of a block turned. Plain. -/
import Derived.Test.YtkdphgcbecldbaaMixG
import Derived.Test.YtkdphgcbecldbaaDevL
namespace Go.Proofs.Ytkdphgcbecldbaa
open MixM
def rotF : Nat → Nat → Nat → List Nat → List Nat
  | 0, _, _, cl => cl
  | r + 1, m, f, cl => if m = 0 then cl else rotF r (m / 2) (f + 1) (cl.set (f / 8) (cl.getD (f / 8) 0 ^^^ m % 2 * 2 ^ (f % 8)))
/-- a block, of which bits from f on are turned by a mask -/
def rotB (l : List Nat) (f m : Nat) : List Nat := rotF (2048 - f) m f l
theorem rotF_len : ∀ (r m f : Nat) (cl : List Nat), (rotF r m f cl).length = cl.length
  | 0, _, _, _ => rfl
  | r + 1, m, f, cl => by
    unfold rotF
    split
    · rfl
    · rw [rotF_len r, List.length_set]
theorem small_set {cl : List Nat} (h : Small cl) (j : Nat) {x : Nat} (hx : x < 256) : Small (cl.set j x) := fun y hy => by
  rcases List.mem_or_eq_of_mem_set hy with h1 | h1
  · exact h y h1
  · rw [h1]; exact hx
theorem flip_small {cl : List Nat} (h : Small cl) (f m : Nat) : cl.getD (f / 8) 0 ^^^ m % 2 * 2 ^ (f % 8) < 256 :=
  Nat.xor_lt_two_pow (n := 8) (h.at_ _) (bt_lt _ _ (Nat.mod_lt _ (by decide)) (Nat.mod_lt _ (by decide)))
theorem rotF_small : ∀ (r m f : Nat) (cl : List Nat), Small cl → Small (rotF r m f cl)
  | 0, _, _, _, h => h
  | r + 1, m, f, cl, h => by
    unfold rotF
    split
    · exact h
    · exact rotF_small r _ _ _ (small_set h _ (flip_small h f m))
theorem rot_step (r m f : Nat) : m % 2 * 2 ^ (f % 8) * 256 ^ (f / 8) ^^^ m / 2 % 2 ^ r * 2 ^ (f + 1) = m % 2 ^ (r + 1) * 2 ^ f := by
  have e1 : m % 2 * 2 ^ (f % 8) * 256 ^ (f / 8) = m % 2 * 2 ^ f := by
    rw [show (256 : Nat) = 2 ^ 8 from rfl, ← Nat.pow_mul, Nat.mul_assoc, ← Nat.pow_add]
    congr 2
    omega
  have e2 : m / 2 % 2 ^ r * 2 ^ (f + 1) = (m / 2 % 2 ^ r * 2) * 2 ^ f := by rw [Nat.pow_succ, Nat.mul_assoc, Nat.mul_comm (2 ^ f) 2]
  have e3 : m % 2 ^ (r + 1) = m % 2 ^^^ m / 2 % 2 ^ r * 2 := by
    apply Nat.eq_of_testBit_eq
    intro i
    cases i with
    | zero =>
      rw [Nat.testBit_xor, Nat.testBit_mod_two_pow]
      have e : (m / 2 % 2 ^ r * 2).testBit 0 = false := by
        rw [Nat.testBit_zero]; simp
      have e' : (m % 2).testBit 0 = m.testBit 0 := by rw [Nat.testBit_zero, Nat.testBit_zero, Nat.mod_mod]
      rw [e, e']
      simp
    | succ i =>
      rw [Nat.testBit_xor, Nat.testBit_mod_two_pow, Nat.testBit_succ (m % 2), Nat.testBit_succ (m / 2 % 2 ^ r * 2), Nat.mul_div_cancel _ (by decide), Nat.testBit_mod_two_pow, show m % 2 / 2 = 0 by omega, Nat.zero_testBit, Nat.testBit_succ m]
      simp
  rw [e1, e2, e3]
  apply Nat.eq_of_testBit_eq
  intro i
  simp only [Nat.testBit_xor, Nat.testBit_mul_two_pow]
  cases decide (f ≤ i) <;> simp
theorem num_rotF : ∀ (r m f : Nat) (cl : List Nat), f + r ≤ 8 * cl.length → num (rotF r m f cl) = num cl ^^^ m % 2 ^ r * 2 ^ f
  | 0, m, f, cl, _ => by
    unfold rotF
    rw [Nat.pow_zero, Nat.mod_one, Nat.zero_mul, Nat.xor_zero]
  | r + 1, m, f, cl, h => by
    unfold rotF
    split
    · rename_i h0
      rw [h0, Nat.zero_mod, Nat.zero_mul, Nat.xor_zero]
    · have hj : f / 8 < cl.length := by omega
      have e := num_set cl (f / 8) (m % 2 * 2 ^ (f % 8)) hj
      rw [num_rotF r _ _ _ (by rw [List.length_set]; omega)]
      rw [List.getD_eq_getElem?_getD, List.getElem?_eq_getElem hj, Option.getD_some, e, Nat.xor_assoc, rot_step]
theorem num_rotB {l : List Nat} (hl : l.length = 256) (f m : Nat) (hf : f ≤ 2048) : num (rotB l f m) = num l ^^^ m % 2 ^ (2048 - f) * 2 ^ f := num_rotF _ _ _ _ (by rw [hl]; omega)
theorem num_inj : ∀ {a b : List Nat}, a.length = b.length → Small a → Small b → num a = num b → a = b
  | [], [], _, _, _, _ => rfl
  | x :: a, y :: b, h, ha, hb, e => by
    have hx := ha x (List.mem_cons_self ..)
    have hy := hb y (List.mem_cons_self ..)
    have e' : x ^^^ num a * 256 = y ^^^ num b * 256 := e
    have exy : x = y := by
      have h1 := congrArg (· % 2 ^ 8) e'
      simp only [Nat.xor_mod_two_pow] at h1
      have z1 : num a * 256 % 2 ^ 8 = 0 := Nat.mul_mod_left (num a) 256
      have z2 : num b * 256 % 2 ^ 8 = 0 := Nat.mul_mod_left (num b) 256
      rw [z1, z2, Nat.xor_zero, Nat.xor_zero, Nat.mod_eq_of_lt (show x < 2 ^ 8 by omega), Nat.mod_eq_of_lt (show y < 2 ^ 8 by omega)] at h1
      exact h1
    subst exy
    have h2 := congrArg (x ^^^ ·) e'
    simp only [← Nat.xor_assoc, Nat.xor_self, Nat.zero_xor] at h2
    have h3 : num a = num b := Nat.eq_of_mul_eq_mul_right (by decide) h2
    have h4 : a = b := num_inj (Nat.succ.inj h) (fun z hz => ha z (List.mem_cons_of_mem _ hz)) (fun z hz => hb z (List.mem_cons_of_mem _ hz)) h3
    rw [h4]
/-- turned twice: as it was -/
theorem rotB_twice {l : List Nat} (hl : l.length = 256) (hs : Small l) (f m : Nat) (hf : f ≤ 2048) : rotB (rotB l f m) f m = l := by
  have h1 : (rotB l f m).length = 256 := (rotF_len _ _ _ _).trans hl
  refine num_inj (by rw [show (rotB (rotB l f m) f m).length = (rotB l f m).length from rotF_len _ _ _ _, h1, hl]) (rotF_small _ _ _ _ (rotF_small _ _ _ _ hs)) hs ?_
  rw [num_rotB h1 f m hf, num_rotB hl f m hf, Nat.xor_assoc, Nat.xor_self, Nat.xor_zero]
/-- one bit is turned: another block -/
theorem rotB_one {l : List Nat} (hl : l.length = 256) (f m : Nat) (hf : f < 2048) (hm : m % 2 = 1) : rotB l f m ≠ l := by
  intro h
  have h1 := num_rotB hl f m (by omega)
  rw [h] at h1
  have h2 := congrArg (num l ^^^ ·) h1
  simp only [← Nat.xor_assoc, Nat.xor_self, Nat.zero_xor] at h2
  have h3 : m % 2 ^ (2048 - f) % 2 = 1 := by
    rw [show 2048 - f = (2048 - f - 1) + 1 by omega, Nat.pow_succ, Nat.mod_mul_left_mod]
    exact hm
  have h4 : 0 < m % 2 ^ (2048 - f) := by omega
  have h5 : 0 < 2 ^ f := Nat.two_pow_pos f
  have h6 := Nat.mul_pos h4 h5
  omega
end Go.Proofs.Ytkdphgcbecldbaa
