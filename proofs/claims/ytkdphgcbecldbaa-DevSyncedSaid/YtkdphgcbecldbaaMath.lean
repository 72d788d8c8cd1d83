/- Plain mathematics of the sum: polynomials over 0 and 1 as numbers. No program in sight. -/
namespace Go.Proofs.Ytkdphgcbecldbaa.MixM
def P : Nat := 0x82F63B78
def M : Nat := 4294967296
def sh (n : Nat) : Nat := if n % 2 = 1 then (n / 2) ^^^ P else n / 2
def shN : Nat → Nat → Nat
  | 0, n => n
  | k + 1, n => shN k (sh n)

theorem xor_lt {a b : Nat} (ha : a < 4294967296) (hb : b < 4294967296) : a ^^^ b < 4294967296 :=
  Nat.xor_lt_two_pow (n := 32) ha hb

theorem sh_lt {n : Nat} (h : n < 4294967296) : sh n < 4294967296 := by
  unfold sh
  split
  · exact xor_lt (by omega) (by decide)
  · omega
theorem shN_lt {n : Nat} (k : Nat) (h : n < 4294967296) : shN k n < 4294967296 := by
  induction k generalizing n with
  | zero => exact h
  | succ k ih => exact ih (sh_lt h)

theorem sh_xor (a b : Nat) : sh (a ^^^ b) = sh a ^^^ sh b := by
  unfold sh
  have hd : (a ^^^ b) / 2 = a / 2 ^^^ b / 2 := Nat.xor_div_two
  have hm : (a ^^^ b) % 2 = (a % 2 + b % 2) % 2 := by
    have := @Nat.xor_mod_two_pow a b 1
    simp at this
    rw [this]
    rcases Nat.mod_two_eq_zero_or_one a with h | h <;> rcases Nat.mod_two_eq_zero_or_one b with h' | h' <;> simp [h, h']
  rw [hd]
  rcases Nat.mod_two_eq_zero_or_one a with h | h <;> rcases Nat.mod_two_eq_zero_or_one b with h' | h' <;> simp [h, h', hm]
  · rw [Nat.xor_assoc]
  · rw [Nat.xor_assoc, Nat.xor_assoc, Nat.xor_comm P]
  · rw [show a / 2 ^^^ P ^^^ (b / 2 ^^^ P) = a / 2 ^^^ (b / 2 ^^^ (P ^^^ P)) by rw [Nat.xor_assoc, Nat.xor_comm P, Nat.xor_assoc]]
    simp
theorem shN_xor (k a b : Nat) : shN k (a ^^^ b) = shN k a ^^^ shN k b := by
  induction k generalizing a b with
  | zero => rfl
  | succ k ih => rw [shN, sh_xor, ih, shN, shN]
theorem shN_add (j k n : Nat) : shN (j + k) n = shN k (shN j n) := by
  induction j generalizing n with
  | zero => simp [shN]
  | succ j ih => rw [Nat.succ_add, shN, ih, shN]
theorem sh_zero : sh 0 = 0 := rfl
theorem shN_zero (k : Nat) : shN k 0 = 0 := by
  induction k with
  | zero => rfl
  | succ k ih => rw [shN, sh_zero, ih]
theorem shN_mul (k m : Nat) : shN k (m * 2 ^ k) = m := by
  induction k generalizing m with
  | zero => simp [shN]
  | succ k ih =>
    rw [shN]
    have : sh (m * 2 ^ (k + 1)) = m * 2 ^ k := by
      unfold sh
      rw [Nat.pow_succ, ← Nat.mul_assoc]
      rw [if_neg (by omega)]
      omega
    rw [this, ih]
/-- a number is its high part and its low part -/
theorem split (n k : Nat) : n = (n / 2 ^ k * 2 ^ k) ^^^ (n % 2 ^ k) := by
  apply Nat.eq_of_testBit_eq
  intro i
  rw [Nat.testBit_xor, Nat.testBit_mul_two_pow, Nat.testBit_mod_two_pow, Nat.testBit_div_two_pow]
  by_cases h : k ≤ i
  · have h' : ¬ i < k := by omega
    simp [h, h']
  · have h' : i < k := by omega
    simp [h, h']
theorem shN_split (k n : Nat) : shN k n = n / 2 ^ k ^^^ shN k (n % 2 ^ k) := by
  conv => lhs; rw [split n k]
  rw [shN_xor, shN_mul]
/-- the table -/
def tab : List Nat := (List.range 16).map (shN 4)
theorem half_eq (n : Nat) : shN 4 n = (n / 16) ^^^ (tab[n % 16]?.getD 0) := by
  have h := shN_split 4 n
  rw [h]
  have : n % 16 < 16 := Nat.mod_lt _ (by decide)
  simp [tab, this]
/-- bytes into a sum -/
def take (n b : Nat) : Nat := shN 8 (n ^^^ b)
def run (n : Nat) (l : List Nat) : Nat := l.foldl take n
theorem run_nil (n : Nat) : run n [] = n := rfl
theorem run_cons (n b : Nat) (l : List Nat) : run n (b :: l) = run (take n b) l := rfl
theorem run_append (n : Nat) (l m : List Nat) : run n (l ++ m) = run (run n l) m := List.foldl_append ..
theorem run_lt {n : Nat} {l : List Nat} (h : n < 4294967296) (hl : ∀ b ∈ l, b < 256) : run n l < 4294967296 := by
  induction l generalizing n with
  | nil => exact h
  | cons b l ih => 
    rw [run_cons]
    refine ih (shN_lt _ (xor_lt h ?_)) fun c hc => hl c (List.mem_cons_of_mem _ hc)
    have := hl b List.mem_cons_self
    omega
/-- four bytes at once -/
theorem take4 (n a b c d : Nat) :
    shN 32 (n ^^^ (a ^^^ b * 256 ^^^ c * 65536 ^^^ d * 16777216)) = take (take (take (take n a) b) c) d := by
  unfold take
  simp only [shN_xor]
  simp only [← shN_add, Nat.reduceAdd]
  have hb : shN 32 (b * 256) = shN 24 b := by rw [show 32 = 8 + 24 from rfl, shN_add, show 256 = 2 ^ 8 from rfl, shN_mul]
  have hc : shN 32 (c * 65536) = shN 16 c := by rw [show 32 = 16 + 16 from rfl, shN_add, show 65536 = 2 ^ 16 from rfl, shN_mul]
  have hd : shN 32 (d * 16777216) = shN 8 d := by rw [show 32 = 24 + 8 from rfl, shN_add, show 16777216 = 2 ^ 24 from rfl, shN_mul]
  rw [hb, hc, hd]
  simp only [Nat.xor_assoc]
/-- what a run makes of a beginning and of noughts -/
theorem run_lin (n m : Nat) (l : List Nat) : run (n ^^^ m) l = shN (8 * l.length) n ^^^ run m l := by
  induction l generalizing n m with
  | nil => rfl
  | cons b l ih =>
    rw [run_cons, run_cons]
    have : take (n ^^^ m) b = shN 8 n ^^^ take m b := by
      unfold take; rw [Nat.xor_assoc, shN_xor]
    rw [this, ih, ← shN_add, List.length_cons, show 8 + 8 * l.length = 8 * (l.length + 1) by omega]
theorem run_lin0 (n : Nat) (l : List Nat) : run n l = shN (8 * l.length) n ^^^ run 0 l := by
  have := run_lin n 0 l
  rwa [Nat.xor_zero] at this
def F : Nat := 0xFFFFFFFF
def sum (l : List Nat) : Nat := run F l ^^^ F
theorem sum_append (l m : List Nat) : sum (l ++ m) = shN (8 * m.length) (sum l) ^^^ sum m := by
  unfold sum
  rw [run_append, run_lin0 (run F l) m, run_lin0 F m, shN_xor]
  have e : ∀ a b f g : Nat, a ^^^ b ^^^ g = a ^^^ f ^^^ (f ^^^ b ^^^ g) := by
    intro a b f g
    rw [Nat.xor_assoc a f, Nat.xor_assoc f, ← Nat.xor_assoc f f, Nat.xor_self, Nat.zero_xor, Nat.xor_assoc]
  exact e _ _ _ _
/-- what is zero at each bit is zero -/
theorem basis (f : Nat → Nat) (hx : ∀ a b, f (a ^^^ b) = f a ^^^ f b) (hb : ∀ i, i < 32 → f (2 ^ i) = 0) : ∀ k, k ≤ 32 → ∀ b, b < 2 ^ k → f b = 0 := by
  have h0 : f 0 = 0 := by have := hx 0 0; simpa using this
  intro k
  induction k with
  | zero => intro _ b h; have : b = 0 := by simpa using h
            rw [this, h0]
  | succ k ih =>
    intro hk b hlt
    rw [split b k, hx, ih (by omega) (b % 2 ^ k) (Nat.mod_lt _ (Nat.two_pow_pos k)), Nat.xor_zero]
    have hd : b / 2 ^ k < 2 := by rw [Nat.div_lt_iff_lt_mul (Nat.two_pow_pos k), Nat.mul_comm, ← Nat.pow_succ]; exact hlt
    generalize b / 2 ^ k = q at hd ⊢
    rcases (by omega : q = 0 ∨ q = 1) with e | e
    · rw [e, Nat.zero_mul, h0]
    · rw [e, Nat.one_mul, hb k (by omega)]
def bitOf (a k b : Nat) : Nat := if a.testBit k then b else 0
theorem bitOf_xor (a c k b : Nat) : bitOf (a ^^^ c) k b = bitOf a k b ^^^ bitOf c k b := by
  unfold bitOf; rw [Nat.testBit_xor]
  cases a.testBit k <;> cases c.testBit k <;> simp
theorem bitOf_xor' (a k b c : Nat) : bitOf a k (b ^^^ c) = bitOf a k b ^^^ bitOf a k c := by
  unfold bitOf; cases a.testBit k <;> simp
theorem bitOf_sh (a k b : Nat) : bitOf a k (sh b) = sh (bitOf a k b) := by
  unfold bitOf; cases a.testBit k <;> simp [sh_zero]
/-- a product: the bits of a from k - 1 down -/
def tm : Nat → Nat → Nat → Nat
  | 0, _, _ => 0
  | k + 1, a, b => bitOf a k b ^^^ tm k a (sh b)
theorem xor4 (a b c d : Nat) : a ^^^ b ^^^ (c ^^^ d) = a ^^^ c ^^^ (b ^^^ d) := by
  rw [Nat.xor_assoc, Nat.xor_assoc, ← Nat.xor_assoc b, Nat.xor_comm b c, Nat.xor_assoc c]
theorem tm_xor (k a c b : Nat) : tm k (a ^^^ c) b = tm k a b ^^^ tm k c b := by
  induction k generalizing b with
  | zero => simp [tm]
  | succ k ih => rw [tm, tm, tm, ih, bitOf_xor, xor4]
theorem tm_xor' (k a b c : Nat) : tm k a (b ^^^ c) = tm k a b ^^^ tm k a c := by
  induction k generalizing b c with
  | zero => simp [tm]
  | succ k ih => rw [tm, tm, tm, sh_xor, ih, bitOf_xor', xor4]
theorem tm_sh' (k a b : Nat) : tm k a (sh b) = sh (tm k a b) := by
  induction k generalizing b with
  | zero => simp only [tm]; rfl
  | succ k ih => rw [tm, tm, ih (sh b), bitOf_sh, sh_xor]
theorem tm_zero (k b : Nat) : tm k 0 b = 0 := by
  induction k generalizing b with
  | zero => simp [tm]
  | succ k ih => rw [tm, ih]; simp [bitOf]
/-- a number, its bits one down -/
theorem tm_half (k a b : Nat) : sh (tm k a b) ^^^ bitOf a k b = bitOf a 0 (shN k b) ^^^ tm k (a / 2) b := by
  induction k generalizing b with
  | zero => simp [tm, shN, sh_zero]
  | succ k ih =>
    have hb : bitOf a (k + 1) b = bitOf (a / 2) k b := by unfold bitOf; rw [Nat.testBit_succ]
    rw [tm, sh_xor, ← bitOf_sh, hb, tm, show shN (k + 1) b = shN k (sh b) from rfl]
    have h := ih (sh b)
    generalize bitOf a 0 (shN k (sh b)) = p at *
    generalize bitOf a k (sh b) = q at *
    generalize sh (tm k a (sh b)) = r at *
    generalize bitOf (a / 2) k b = u at *
    generalize tm k (a / 2) (sh b) = t at *
    rw [Nat.xor_comm q, h, Nat.xor_assoc, Nat.xor_comm t]
theorem tm_P (b : Nat) (hb : b < 4294967296) : tm 32 P b = shN 32 b := by
  have h := basis (fun b => tm 32 P b ^^^ shN 32 b) (fun a c => by simp only [tm_xor', shN_xor]; rw [xor4]) (by decide) 32 (by decide) b hb
  have h2 : tm 32 P b ^^^ shN 32 b ^^^ shN 32 b = shN 32 b := by rw [h, Nat.zero_xor]
  rwa [Nat.xor_assoc, Nat.xor_self, Nat.xor_zero] at h2
theorem tm_sh (a b : Nat) (ha : a < 4294967296) (hb : b < 4294967296) : tm 32 (sh a) b = sh (tm 32 a b) := by
  have h := tm_half 32 a b
  have h0 : bitOf a 32 b = 0 := by
    unfold bitOf
    rw [Nat.testBit_lt_two_pow (by simpa using ha)]
    rfl
  rw [h0, Nat.xor_zero] at h
  rw [h]
  unfold sh bitOf
  rw [Nat.testBit_zero]
  by_cases e : a % 2 = 1
  · rw [if_pos e, tm_xor, tm_P b hb, Nat.xor_comm]; simp [e]
  · rw [if_neg e]; simp [e]
def E : Nat := 2147483648
theorem tm_low (k : Nat) (a b : Nat) (h : ∀ j, j < k → a.testBit j = false) : tm k a b = 0 := by
  induction k generalizing b with
  | zero => simp [tm]
  | succ k ih => rw [tm, ih _ (fun j hj => h j (by omega))]; simp [bitOf, h k (by omega)]
theorem tm_E (b : Nat) : tm 32 E b = b := by
  rw [tm, tm_low 31 _ _ (by decide)]
  have : E.testBit 31 = true := by decide
  simp [bitOf, this]
theorem tm_shN (m b : Nat) (hb : b < 4294967296) : tm 32 (shN m E) b = shN m b := by
  have : ∀ m a, a < 4294967296 → tm 32 (shN m a) b = shN m (tm 32 a b) := by
    intro m
    induction m with
    | zero => intro a _; rfl
    | succ m ih => intro a ha; rw [shN, shN, ih _ (sh_lt ha), tm_sh a b ha hb]
  rw [this m E (by decide), tm_E]
theorem E_lt : E < 4294967296 := by decide
theorem xor_same (a b : Nat) : a ^^^ (a ^^^ b) = b := by rw [← Nat.xor_assoc, Nat.xor_self, Nat.zero_xor]
theorem xor_inj {a b c : Nat} (h : a ^^^ b = a ^^^ c) : b = c := by
  have := congrArg (a ^^^ ·) h
  simpa only [xor_same] using this
theorem xor_zero_iff {a b : Nat} : a ^^^ b = 0 ↔ a = b := by
  constructor
  · intro h
    apply xor_inj (a := a)
    rw [Nat.xor_self, h]
  · rintro rfl; exact Nat.xor_self a
/-- sh loses nothing -/
theorem sh_inj0 {d : Nat} (h : d < 4294967296) (h0 : sh d = 0) : d = 0 := by
  unfold sh at h0
  split at h0
  · rw [xor_zero_iff] at h0
    unfold P at h0; omega
  · omega
theorem shN_inj0 {d : Nat} (k : Nat) (h : d < 4294967296) (h0 : shN k d = 0) : d = 0 := by
  induction k generalizing d with
  | zero => exact h0
  | succ k ih => exact sh_inj0 h (ih (sh_lt h) h0)
/-- bytes as one number, the first one lowest -/
def num : List Nat → Nat
  | [] => 0
  | b :: l => b ^^^ num l * 256
theorem run_num (n : Nat) (l : List Nat) : run n l = shN (8 * l.length) (n ^^^ num l) := by
  induction l generalizing n with
  | nil => simp [run, num, shN]
  | cons b l ih =>
    rw [run_cons, ih, num, List.length_cons, show 8 * (l.length + 1) = 8 + 8 * l.length by omega, shN_add, ← Nat.xor_assoc, shN_xor 8, show 256 = 2 ^ 8 from rfl, shN_mul]
    rfl
theorem sum_eq_iff (l m : List Nat) (h : l.length = m.length) : sum l = sum m ↔ shN (8 * l.length) (num l ^^^ num m) = 0 := by
  unfold sum
  rw [run_num, run_num, ← h, shN_xor, shN_xor, shN_xor]
  generalize shN (8 * l.length) F = f
  generalize shN (8 * l.length) (num l) = x
  generalize shN (8 * l.length) (num m) = y
  rw [xor_zero_iff]
  constructor
  · intro e
    rw [Nat.xor_comm _ F, Nat.xor_comm _ F] at e
    exact xor_inj (xor_inj e)
  · rintro rfl; rfl
theorem num_lt (l : List Nat) (h : ∀ b ∈ l, b < 256) : num l < 2 ^ (8 * l.length) := by
  induction l with
  | nil => simp [num]
  | cons b l ih =>
    have h1 := ih fun c hc => h c (List.mem_cons_of_mem _ hc)
    have h2 := h b List.mem_cons_self
    rw [num, List.length_cons]
    refine Nat.xor_lt_two_pow ?_ ?_
    · refine Nat.lt_of_lt_of_le h2 ?_
      exact Nat.pow_le_pow_right (n := 2) (by decide) (show 8 ≤ 8 * (l.length + 1) by omega)
    · rw [show 8 * (l.length + 1) = 8 * l.length + 8 by omega, Nat.pow_add, show 2 ^ 8 = 256 from rfl]
      exact Nat.mul_lt_mul_of_pos_right h1 (by decide)
theorem num_inj (l m : List Nat) (h : l.length = m.length) (hl : ∀ b ∈ l, b < 256) (hm : ∀ b ∈ m, b < 256) (e : num l = num m) : l = m := by
  induction l generalizing m with
  | nil => cases m with
    | nil => rfl
    | cons => simp at h
  | cons b l ih => cases m with
    | nil => simp at h
    | cons c m =>
      have hb := hl b List.mem_cons_self
      have hc := hm c List.mem_cons_self
      rw [num, num] at e
      have e1 : (b ^^^ num l * 256) % 2 ^ 8 = b := by
        rw [Nat.xor_mod_two_pow, Nat.mul_mod_left, Nat.xor_zero, Nat.mod_eq_of_lt hb]
      have e2 : (c ^^^ num m * 256) % 2 ^ 8 = c := by
        rw [Nat.xor_mod_two_pow, Nat.mul_mod_left, Nat.xor_zero, Nat.mod_eq_of_lt hc]
      have ebc : b = c := by rw [← e1, ← e2, e]
      subst ebc
      have := xor_inj e
      rw [ih m (by simpa using h) (fun x hx => hl x (List.mem_cons_of_mem _ hx)) (fun x hx => hm x (List.mem_cons_of_mem _ hx)) (by omega)]
/-- one byte turned -/
theorem num_set (l : List Nat) (j x : Nat) (hj : j < l.length) : num (l.set j (l[j] ^^^ x)) = num l ^^^ x * 256 ^ j := by
  induction l generalizing j with
  | nil => simp at hj
  | cons b l ih =>
    cases j with
    | zero => simp [num, Nat.xor_assoc, Nat.xor_comm x]
    | succ j =>
      simp only [List.set_cons_succ, num, List.getElem_cons_succ]
      rw [ih j (by simpa using hj)]
      rw [Nat.pow_succ, ← Nat.mul_assoc, Nat.xor_assoc]
      congr 1
      have := Nat.shiftLeft_xor_distrib (a := num l) (b := x * 256 ^ j) (i := 8)
      simpa only [Nat.shiftLeft_eq, show 2 ^ 8 = 256 from rfl] using this
/-- a run of 32 bits within a row turns its sum -/
theorem run32 (N f t : Nat) (ht : t < 4294967296) (hf : f ≤ N) : shN N (t % 2 ^ (N - f) * 2 ^ f) = 0 ↔ t % 2 ^ (N - f) = 0 := by
  constructor
  · intro h
    rw [show N = f + (N - f) by omega, shN_add, shN_mul] at h
    rw [show f + (N - f) - f = N - f by omega] at h
    exact shN_inj0 _ (Nat.lt_of_le_of_lt (Nat.mod_le _ _) ht) h
  · intro h; rw [h, Nat.zero_mul, shN_zero]
end Go.Proofs.Ytkdphgcbecldbaa.MixM
