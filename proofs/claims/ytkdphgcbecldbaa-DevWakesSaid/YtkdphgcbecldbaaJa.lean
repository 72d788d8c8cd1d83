/- Texts of the proof, one behind the other: Errs, Math, MixA, Words. -/
import Derived.Test.YtkdphgcbecldbaaRows
import Derived.WalkKit
import Derived.WalkSpells
import Derived.WalkLawsBesides
import Derived.Lib.Hide
import Derived.LaidEql
import Derived.Stop.Asserts
import Derived.RowKitTokens
import Derived.Handy
/- errors.Is by its contracts, for the errors of packages mix and dev: nil, a number as an error, such a number wrapped. -/
namespace Go.Proofs.Ytkdphgcbecldbaa
open Go.RowKit Go.Extern.Stop Go.Stop Go.Extern

section
variable {P : Program} (w : World)
theorem run_equalIn_iface_int (d : Nat) {ti tn : TypeId} {ms : Array (String × TypeId)} {i : TypeInfo} {k : IntKind} (a b : Int)
    (hi : P.underlying ti = some (.interface ms)) (hn : P.underlying tn = some (.int k)) (hinfo : P.info? tn = some i) (hcomp : i.comparable = true) :
    (Op.equalIn (d + 2) ti (.iface tn (.int k a)) (.iface tn (.int k b))).run P w = .ok (a == b) w := by
  simp [Op.equalIn, run_underlying hi, run_underlying hn, typeInfo, hinfo, hcomp]
/-- two interface values of one integer type are equal as the numbers are -/
theorem run_eql_iface_int {ti tn : TypeId} {ms : Array (String × TypeId)} {i : TypeInfo} {k : IntKind} (a b : Int)
    (hi : P.underlying ti = some (.interface ms)) (hn : P.underlying tn = some (.int k)) (hinfo : P.info? tn = some i) (hcomp : i.comparable = true) :
    (binOp .eql ti (.iface tn (.int k a)) (.iface tn (.int k b))).run P w = .ok (.bool (a == b)) w := by
  simp only [binOp]
  simp [Op.equal, Op.maxDepth, run_equalIn_iface_int w 9998 a b hi hn hinfo hcomp]
end

theorem isTypeOf72 (v : Value) (w : World) : (Extern.ReflectliteType.typeOf #[.iface 72 v]).run Try.prog w = .ok (.iface 134 (.agg #[.pointer (some ⟨0, 72, none⟩)])) w := by kernel_rfl
theorem isTypeOf89 (v : Value) (w : World) : (Extern.ReflectliteType.typeOf #[.iface 89 v]).run Try.prog w = .ok (.iface 134 (.agg #[.pointer (some ⟨0, 89, none⟩)])) w := by kernel_rfl
theorem find110 : (Extern.find Try.f110).isSome = true := by kernel_rfl
/-- what the model has for the method Comparable of reflectlite's types -/
noncomputable def cmpE : Array Value → Sem Value := (Extern.find Try.f110).get find110
theorem find110' : Extern.find Try.f110 = some cmpE := by simp [cmpE]
theorem isComparable72 (w : World) : (cmpE #[.agg #[.pointer (some ⟨0, 72, none⟩)]]).run Try.prog w = .ok (.bool true) w := by kernel_rfl
theorem isComparable89 (w : World) : (cmpE #[.agg #[.pointer (some ⟨0, 89, none⟩)]]).run Try.prog w = .ok (.bool true) w := by kernel_rfl
theorem mComparable (v : Value) (w : World) : (Go.method 275 134 v "Comparable").run Try.prog w = .ok (110, v) w := by kernel_rfl
theorem mUnwrap116 (v : Value) (w : World) : (Go.method 275 116 v "Unwrap").run Try.prog w = .ok (106, v) w := by kernel_rfl
theorem mUnwrap91 (v : Value) (w : World) : (Go.method 275 91 v "Unwrap").run Try.prog w = .ok (105, v) w := by kernel_rfl
theorem isComp72 : (Try.prog.info? 72).map (·.comparable) = some true := by kernel_rfl
theorem isComp89 : (Try.prog.info? 89).map (·.comparable) = some true := by kernel_rfl
theorem noIs72 (v : Value) (xT : TypeId) (w : World) : (Instr.typeAssert (.iface 72 v) xT 136 true).run Try.prog w = .ok (.tuple #[.nilIface, .bool false]) w := run_typeAssert_lacksB Try.underlying136 (by kernel_rfl) (by kernel_rfl) v xT w
theorem noIs89 (v : Value) (xT : TypeId) (w : World) : (Instr.typeAssert (.iface 89 v) xT 136 true).run Try.prog w = .ok (.tuple #[.nilIface, .bool false]) w := run_typeAssert_lacksB Try.underlying136 (by kernel_rfl) (by kernel_rfl) v xT w
theorem noIs91 (v : Value) (xT : TypeId) (w : World) : (Instr.typeAssert (.iface 91 v) xT 136 true).run Try.prog w = .ok (.tuple #[.nilIface, .bool false]) w := run_typeAssert_lacksB Try.underlying136 (by kernel_rfl) (by kernel_rfl) v xT w
theorem noIs116 (v : Value) (xT : TypeId) (w : World) : (Instr.typeAssert (.iface 116 v) xT 136 true).run Try.prog w = .ok (.tuple #[.nilIface, .bool false]) w := run_typeAssert_lacksB Try.underlying136 (by kernel_rfl) (by kernel_rfl) v xT w
theorem noUnwrap89 (v : Value) (xT : TypeId) (w : World) : (Instr.typeAssert (.iface 89 v) xT 138 true).run Try.prog w = .ok (.tuple #[.nilIface, .bool false]) w := run_typeAssert_lacksB Try.underlying138 (by kernel_rfl) (by kernel_rfl) v xT w
theorem noUnwraps89 (v : Value) (xT : TypeId) (w : World) : (Instr.typeAssert (.iface 89 v) xT 139 true).run Try.prog w = .ok (.tuple #[.nilIface, .bool false]) w := run_typeAssert_lacksB Try.underlying139 (by kernel_rfl) (by kernel_rfl) v xT w
theorem hasUnwrap91 (v : Value) (xT : TypeId) (w : World) : (Instr.typeAssert (.iface 91 v) xT 138 true).run Try.prog w = .ok (.tuple #[.iface 91 v, .bool true]) w := run_typeAssert_hasB Try.underlying138 (by kernel_rfl) v xT w
theorem hasUnwrap116 (v : Value) (xT : TypeId) (w : World) : (Instr.typeAssert (.iface 116 v) xT 138 true).run Try.prog w = .ok (.tuple #[.iface 116 v, .bool true]) w := run_typeAssert_hasB Try.underlying138 (by kernel_rfl) v xT w

set_option maxHeartbeats 400000 in
theorem unwrap116 (a b c : Int) (w : World) :
    Calls Try.prog 106 #[.agg #[.int .u32 a, .int .u32 b, .int .i64 c]] w fun e w' => e = .returned (.iface 72 (.int .i64 c)) ∧ Below w.heap.size w w' := by
  go_enter Try.func106, Try.ntmps106
  go_wp2
  go_ret
  exact ⟨rfl, (Below.refl _ _).alloc (Nat.le_refl _) _⟩
set_option maxHeartbeats 400000 in
theorem unwrap91 (n : Int) (v : Value) (w : World) :
    Calls Try.prog 105 #[.agg #[.int .i64 n, v]] w fun e w' => e = .returned v ∧ Below w.heap.size w w' := by
  go_enter Try.func105, Try.ntmps105
  go_wp2
  go_ret
  exact ⟨rfl, (Below.refl _ _).alloc (Nat.le_refl _) _⟩
set_option maxHeartbeats 400000 in
theorem is_mix_nil (x : Value) (w : World) :
    Calls Try.prog 44 #[.nilIface, .iface 72 x] w fun e w' => e = .returned (.bool false) ∧ w = w' := by
  have hn := run_eql_iface_nil_left (P := Try.prog) w 72 x Try.underlying70
  go_enter Try.func44, Try.ntmps44
  go_wp2
  go_ret
  exact ⟨rfl, rfl⟩
set_option maxRecDepth 100000 in
set_option maxHeartbeats 400000 in
theorem is75_mix (a b c : Int) (w : World) :
    Calls Try.prog 75 #[.iface 116 (.agg #[.int .u32 a, .int .u32 b, .int .i64 c]), .iface 72 (.int .i64 c), .bool true] w fun e w' => e = .returned (.bool true) ∧ Below w.heap.size w w' := by
  obtain ⟨i, hi, hcmp⟩ := Option.map_eq_some_iff.1 isComp72
  have mU := mUnwrap116
  have nW := noIs116
  have uW := hasUnwrap116
  have hty := run_eql_iface_types (P := Try.prog) 116 72 (.agg #[.int .u32 a, .int .u32 b, .int .i64 c]) (.int .i64 c) Try.underlying70 (by decide) w
  have heq := fun w => run_eql_iface_int (P := Try.prog) w c c Try.underlying70 Try.underlying72 hi hcmp
  go_enter Try.func75, Try.ntmps75
  go_wp2_with fail
  refine wp_loop_rounds 2 ?_
  rw [rounds_succ]
  go_wp2_with fail
  refine (unwrap116 a b c _).mono ?_
  rintro e w1 ⟨rfl, hb⟩
  go_wp2_with fail
  rw [rounds_succ]
  go_wp2_with fail
  go_ret
  exact ⟨rfl, hb⟩
set_option maxRecDepth 100000 in
set_option maxHeartbeats 400000 in
theorem is_mix_wrong (a b c : Int) (w : World) :
    Calls Try.prog 44 #[.iface 116 (.agg #[.int .u32 a, .int .u32 b, .int .i64 c]), .iface 72 (.int .i64 c)] w fun e w' => e = .returned (.bool true) ∧ Below w.heap.size w w' := by
  have h8 := @run_callFunc_extern Try.prog 74 _ Extern.ReflectliteType.typeOf Try.func74 (by kernel_rfl) (by kernel_rfl) (by kernel_rfl) (by kernel_rfl)
  have h32 := @run_callFunc_extern Try.prog 110 _ cmpE Try.func110 (by kernel_rfl) (by kernel_rfl) (by kernel_rfl) find110'
  have tT := isTypeOf72
  have cT := isComparable72
  have mC := mComparable
  go_enter Try.func44, Try.ntmps44
  go_wp2_with fail
  refine (is75_mix a b c _).mono ?_
  rintro e w1 ⟨rfl, hb⟩
  go_wp2_with fail
  go_ret
  exact ⟨rfl, hb⟩

set_option maxRecDepth 100000 in
set_option maxHeartbeats 400000 in
theorem is75_dev_same (c : Int) (w : World) :
    Calls Try.prog 75 #[.iface 89 (.int .i64 c), .iface 89 (.int .i64 c), .bool true] w fun e w' => e = .returned (.bool true) ∧ w = w' := by
  obtain ⟨i, hi, hcmp⟩ := Option.map_eq_some_iff.1 isComp89
  have heq := fun w => run_eql_iface_int (P := Try.prog) w c c Try.underlying70 Try.underlying89 hi hcmp
  go_enter Try.func75, Try.ntmps75
  go_wp2_with fail
  refine wp_loop_rounds 1 ?_
  rw [rounds_succ]
  go_wp2_with fail
  go_ret
  exact ⟨rfl, rfl⟩
set_option maxRecDepth 100000 in
set_option maxHeartbeats 400000 in
theorem is75_dev_other (c x : Int) (hne : (c == x) = false) (w : World) :
    Calls Try.prog 75 #[.iface 89 (.int .i64 c), .iface 89 (.int .i64 x), .bool true] w fun e w' => e = .returned (.bool false) ∧ w = w' := by
  obtain ⟨i, hi, hcmp⟩ := Option.map_eq_some_iff.1 isComp89
  have nW := noIs89
  have uW := noUnwrap89
  have vW := noUnwraps89
  have heq := fun w => run_eql_iface_int (P := Try.prog) w c x Try.underlying70 Try.underlying89 hi hcmp
  go_enter Try.func75, Try.ntmps75
  go_wp2_with fail
  refine wp_loop_rounds 1 ?_
  rw [rounds_succ]
  go_wp2_with fail
  go_ret
  exact ⟨rfl, rfl⟩
set_option maxRecDepth 100000 in
set_option maxHeartbeats 400000 in
theorem is75_at_same (n c : Int) (w : World) :
    Calls Try.prog 75 #[.iface 91 (.agg #[.int .i64 n, .iface 89 (.int .i64 c)]), .iface 89 (.int .i64 c), .bool true] w fun e w' => e = .returned (.bool true) ∧ Below w.heap.size w w' := by
  obtain ⟨i, hi, hcmp⟩ := Option.map_eq_some_iff.1 isComp89
  have mU := mUnwrap91
  have nW := noIs91
  have uW := hasUnwrap91
  have hty := run_eql_iface_types (P := Try.prog) 91 89 (.agg #[.int .i64 n, .iface 89 (.int .i64 c)]) (.int .i64 c) Try.underlying70 (by decide) w
  have heq := fun w => run_eql_iface_int (P := Try.prog) w c c Try.underlying70 Try.underlying89 hi hcmp
  go_enter Try.func75, Try.ntmps75
  go_wp2_with fail
  refine wp_loop_rounds 2 ?_
  rw [rounds_succ]
  go_wp2_with fail
  refine (unwrap91 n _ _).mono ?_
  rintro e w1 ⟨rfl, hb⟩
  go_wp2_with fail
  rw [rounds_succ]
  go_wp2_with fail
  go_ret
  exact ⟨rfl, hb⟩
set_option maxRecDepth 100000 in
set_option maxHeartbeats 400000 in
theorem is75_at_other (n c x : Int) (hne : (c == x) = false) (w : World) :
    Calls Try.prog 75 #[.iface 91 (.agg #[.int .i64 n, .iface 89 (.int .i64 c)]), .iface 89 (.int .i64 x), .bool true] w fun e w' => e = .returned (.bool false) ∧ Below w.heap.size w w' := by
  obtain ⟨i, hi, hcmp⟩ := Option.map_eq_some_iff.1 isComp89
  have mU := mUnwrap91
  have nW := noIs91
  have uW := hasUnwrap91
  have nW2 := noIs89
  have uW2 := noUnwrap89
  have vW2 := noUnwraps89
  have hty := run_eql_iface_types (P := Try.prog) 91 89 (.agg #[.int .i64 n, .iface 89 (.int .i64 c)]) (.int .i64 x) Try.underlying70 (by decide) w
  have heq := fun w => run_eql_iface_int (P := Try.prog) w c x Try.underlying70 Try.underlying89 hi hcmp
  go_enter Try.func75, Try.ntmps75
  go_wp2_with fail
  refine wp_loop_rounds 2 ?_
  rw [rounds_succ]
  go_wp2_with fail
  refine (unwrap91 n _ _).mono ?_
  rintro e w1 ⟨rfl, hb⟩
  go_wp2_with fail
  rw [rounds_succ]
  go_wp2_with fail
  go_ret
  exact ⟨rfl, hb⟩
set_option maxHeartbeats 400000 in
theorem is_dev_nil (x : Value) (w : World) :
    Calls Try.prog 44 #[.nilIface, .iface 89 x] w fun e w' => e = .returned (.bool false) ∧ w = w' := by
  have hn := run_eql_iface_nil_left (P := Try.prog) w 89 x Try.underlying70
  go_enter Try.func44, Try.ntmps44
  go_wp2
  go_ret
  exact ⟨rfl, rfl⟩
/-- errors.Is of a number and a number -/
theorem is_dev_code (c x : Int) (w : World) :
    Calls Try.prog 44 #[.iface 89 (.int .i64 c), .iface 89 (.int .i64 x)] w fun e w' => e = .returned (.bool (c == x)) ∧ w = w' := by
  have h8 := @run_callFunc_extern Try.prog 74 _ Extern.ReflectliteType.typeOf Try.func74 (by kernel_rfl) (by kernel_rfl) (by kernel_rfl) (by kernel_rfl)
  have h32 := @run_callFunc_extern Try.prog 110 _ cmpE Try.func110 (by kernel_rfl) (by kernel_rfl) (by kernel_rfl) find110'
  have tT := isTypeOf89
  have cT := isComparable89
  have mC := mComparable
  go_enter Try.func44, Try.ntmps44
  go_wp2_with fail
  by_cases h : c = x
  · subst h
    refine (is75_dev_same c _).mono ?_
    rintro e w1 ⟨rfl, rfl⟩
    go_wp2_with fail
    go_ret
    exact ⟨by simp, rfl⟩
  · have h' : (c == x) = false := by simpa using h
    refine (is75_dev_other c x h' _).mono ?_
    rintro e w1 ⟨rfl, rfl⟩
    go_wp2_with fail
    go_ret
    exact ⟨by rw [h']; rfl, rfl⟩
/-- errors.Is of a wrapped number and a number -/
theorem is_dev_at (n c x : Int) (w : World) :
    Calls Try.prog 44 #[.iface 91 (.agg #[.int .i64 n, .iface 89 (.int .i64 c)]), .iface 89 (.int .i64 x)] w fun e w' => e = .returned (.bool (c == x)) ∧ Below w.heap.size w w' := by
  have h8 := @run_callFunc_extern Try.prog 74 _ Extern.ReflectliteType.typeOf Try.func74 (by kernel_rfl) (by kernel_rfl) (by kernel_rfl) (by kernel_rfl)
  have h32 := @run_callFunc_extern Try.prog 110 _ cmpE Try.func110 (by kernel_rfl) (by kernel_rfl) (by kernel_rfl) find110'
  have tT := isTypeOf89
  have cT := isComparable89
  have mC := mComparable
  go_enter Try.func44, Try.ntmps44
  go_wp2_with fail
  by_cases h : c = x
  · subst h
    refine (is75_at_same n c _).mono ?_
    rintro e w1 ⟨rfl, hb⟩
    go_wp2_with fail
    go_ret
    exact ⟨by simp, hb⟩
  · have h' : (c == x) = false := by simpa using h
    refine (is75_at_other n c x h' _).mono ?_
    rintro e w1 ⟨rfl, hb⟩
    go_wp2_with fail
    go_ret
    exact ⟨by rw [h']; rfl, hb⟩
end Go.Proofs.Ytkdphgcbecldbaa
/- Plain mathematics of the sum: polynomials over 0 and 1 as numbers. No program in sight. -/
namespace Go.Proofs.Ytkdphgcbecldbaa.MixM
def P : Nat := 0x82F63B78
def M : Nat := 4294967296
def sh (n : Nat) : Nat := if n % 2 = 1 then (n / 2) ^^^ P else n / 2
def shN : Nat → Nat → Nat
  | 0, n => n
  | k + 1, n => shN k (sh n)

theorem xor_lt {a b : Nat} (ha : a < 4294967296) (hb : b < 4294967296) : a ^^^ b < 4294967296 :=
  Nat.xor_lt_two_pow (n := 32) ha hb

theorem sh_lt {n : Nat} (h : n < 4294967296) : sh n < 4294967296 := by
  unfold sh
  split
  · exact xor_lt (by omega) (by decide)
  · omega
theorem shN_lt {n : Nat} (k : Nat) (h : n < 4294967296) : shN k n < 4294967296 := by
  induction k generalizing n with
  | zero => exact h
  | succ k ih => exact ih (sh_lt h)

theorem sh_xor (a b : Nat) : sh (a ^^^ b) = sh a ^^^ sh b := by
  unfold sh
  have hd : (a ^^^ b) / 2 = a / 2 ^^^ b / 2 := Nat.xor_div_two
  have hm : (a ^^^ b) % 2 = (a % 2 + b % 2) % 2 := by
    have := @Nat.xor_mod_two_pow a b 1
    simp at this
    rw [this]
    rcases Nat.mod_two_eq_zero_or_one a with h | h <;> rcases Nat.mod_two_eq_zero_or_one b with h' | h' <;> simp [h, h']
  rw [hd]
  rcases Nat.mod_two_eq_zero_or_one a with h | h <;> rcases Nat.mod_two_eq_zero_or_one b with h' | h' <;> simp [h, h', hm]
  · rw [Nat.xor_assoc]
  · rw [Nat.xor_assoc, Nat.xor_assoc, Nat.xor_comm P]
  · rw [show a / 2 ^^^ P ^^^ (b / 2 ^^^ P) = a / 2 ^^^ (b / 2 ^^^ (P ^^^ P)) by rw [Nat.xor_assoc, Nat.xor_comm P, Nat.xor_assoc]]
    simp
theorem shN_xor (k a b : Nat) : shN k (a ^^^ b) = shN k a ^^^ shN k b := by
  induction k generalizing a b with
  | zero => rfl
  | succ k ih => rw [shN, sh_xor, ih, shN, shN]
theorem shN_add (j k n : Nat) : shN (j + k) n = shN k (shN j n) := by
  induction j generalizing n with
  | zero => simp [shN]
  | succ j ih => rw [Nat.succ_add, shN, ih, shN]
theorem sh_zero : sh 0 = 0 := rfl
theorem shN_zero (k : Nat) : shN k 0 = 0 := by
  induction k with
  | zero => rfl
  | succ k ih => rw [shN, sh_zero, ih]
theorem shN_mul (k m : Nat) : shN k (m * 2 ^ k) = m := by
  induction k generalizing m with
  | zero => simp [shN]
  | succ k ih =>
    rw [shN]
    have : sh (m * 2 ^ (k + 1)) = m * 2 ^ k := by
      unfold sh
      rw [Nat.pow_succ, ← Nat.mul_assoc]
      rw [if_neg (by omega)]
      omega
    rw [this, ih]
/-- a number is its high part and its low part -/
theorem split (n k : Nat) : n = (n / 2 ^ k * 2 ^ k) ^^^ (n % 2 ^ k) := by
  apply Nat.eq_of_testBit_eq
  intro i
  rw [Nat.testBit_xor, Nat.testBit_mul_two_pow, Nat.testBit_mod_two_pow, Nat.testBit_div_two_pow]
  by_cases h : k ≤ i
  · have h' : ¬ i < k := by omega
    simp [h, h']
  · have h' : i < k := by omega
    simp [h, h']
theorem shN_split (k n : Nat) : shN k n = n / 2 ^ k ^^^ shN k (n % 2 ^ k) := by
  conv => lhs; rw [split n k]
  rw [shN_xor, shN_mul]
/-- the table -/
def tab : List Nat := (List.range 16).map (shN 4)
theorem half_eq (n : Nat) : shN 4 n = (n / 16) ^^^ (tab[n % 16]?.getD 0) := by
  have h := shN_split 4 n
  rw [h]
  have : n % 16 < 16 := Nat.mod_lt _ (by decide)
  simp [tab, this]
/-- bytes into a sum -/
def take (n b : Nat) : Nat := shN 8 (n ^^^ b)
def run (n : Nat) (l : List Nat) : Nat := l.foldl take n
theorem run_nil (n : Nat) : run n [] = n := rfl
theorem run_cons (n b : Nat) (l : List Nat) : run n (b :: l) = run (take n b) l := rfl
theorem run_append (n : Nat) (l m : List Nat) : run n (l ++ m) = run (run n l) m := List.foldl_append ..
theorem run_lt {n : Nat} {l : List Nat} (h : n < 4294967296) (hl : ∀ b ∈ l, b < 256) : run n l < 4294967296 := by
  induction l generalizing n with
  | nil => exact h
  | cons b l ih => 
    rw [run_cons]
    refine ih (shN_lt _ (xor_lt h ?_)) fun c hc => hl c (List.mem_cons_of_mem _ hc)
    have := hl b List.mem_cons_self
    omega
/-- four bytes at once -/
theorem take4 (n a b c d : Nat) :
    shN 32 (n ^^^ (a ^^^ b * 256 ^^^ c * 65536 ^^^ d * 16777216)) = take (take (take (take n a) b) c) d := by
  unfold take
  simp only [shN_xor]
  simp only [← shN_add, Nat.reduceAdd]
  have hb : shN 32 (b * 256) = shN 24 b := by rw [show 32 = 8 + 24 from rfl, shN_add, show 256 = 2 ^ 8 from rfl, shN_mul]
  have hc : shN 32 (c * 65536) = shN 16 c := by rw [show 32 = 16 + 16 from rfl, shN_add, show 65536 = 2 ^ 16 from rfl, shN_mul]
  have hd : shN 32 (d * 16777216) = shN 8 d := by rw [show 32 = 24 + 8 from rfl, shN_add, show 16777216 = 2 ^ 24 from rfl, shN_mul]
  rw [hb, hc, hd]
  simp only [Nat.xor_assoc]
/-- what a run makes of a beginning and of noughts -/
theorem run_lin (n m : Nat) (l : List Nat) : run (n ^^^ m) l = shN (8 * l.length) n ^^^ run m l := by
  induction l generalizing n m with
  | nil => rfl
  | cons b l ih =>
    rw [run_cons, run_cons]
    have : take (n ^^^ m) b = shN 8 n ^^^ take m b := by
      unfold take; rw [Nat.xor_assoc, shN_xor]
    rw [this, ih, ← shN_add, List.length_cons, show 8 + 8 * l.length = 8 * (l.length + 1) by omega]
theorem run_lin0 (n : Nat) (l : List Nat) : run n l = shN (8 * l.length) n ^^^ run 0 l := by
  have := run_lin n 0 l
  rwa [Nat.xor_zero] at this
def F : Nat := 0xFFFFFFFF
def sum (l : List Nat) : Nat := run F l ^^^ F
theorem sum_append (l m : List Nat) : sum (l ++ m) = shN (8 * m.length) (sum l) ^^^ sum m := by
  unfold sum
  rw [run_append, run_lin0 (run F l) m, run_lin0 F m, shN_xor]
  have e : ∀ a b f g : Nat, a ^^^ b ^^^ g = a ^^^ f ^^^ (f ^^^ b ^^^ g) := by
    intro a b f g
    rw [Nat.xor_assoc a f, Nat.xor_assoc f, ← Nat.xor_assoc f f, Nat.xor_self, Nat.zero_xor, Nat.xor_assoc]
  exact e _ _ _ _
/-- what is zero at each bit is zero -/
theorem basis (f : Nat → Nat) (hx : ∀ a b, f (a ^^^ b) = f a ^^^ f b) (hb : ∀ i, i < 32 → f (2 ^ i) = 0) : ∀ k, k ≤ 32 → ∀ b, b < 2 ^ k → f b = 0 := by
  have h0 : f 0 = 0 := by have := hx 0 0; simpa using this
  intro k
  induction k with
  | zero => intro _ b h; have : b = 0 := by simpa using h
            rw [this, h0]
  | succ k ih =>
    intro hk b hlt
    rw [split b k, hx, ih (by omega) (b % 2 ^ k) (Nat.mod_lt _ (Nat.two_pow_pos k)), Nat.xor_zero]
    have hd : b / 2 ^ k < 2 := by rw [Nat.div_lt_iff_lt_mul (Nat.two_pow_pos k), Nat.mul_comm, ← Nat.pow_succ]; exact hlt
    generalize b / 2 ^ k = q at hd ⊢
    rcases (by omega : q = 0 ∨ q = 1) with e | e
    · rw [e, Nat.zero_mul, h0]
    · rw [e, Nat.one_mul, hb k (by omega)]
def bitOf (a k b : Nat) : Nat := if a.testBit k then b else 0
theorem bitOf_xor (a c k b : Nat) : bitOf (a ^^^ c) k b = bitOf a k b ^^^ bitOf c k b := by
  unfold bitOf; rw [Nat.testBit_xor]
  cases a.testBit k <;> cases c.testBit k <;> simp
theorem bitOf_xor' (a k b c : Nat) : bitOf a k (b ^^^ c) = bitOf a k b ^^^ bitOf a k c := by
  unfold bitOf; cases a.testBit k <;> simp
theorem bitOf_sh (a k b : Nat) : bitOf a k (sh b) = sh (bitOf a k b) := by
  unfold bitOf; cases a.testBit k <;> simp [sh_zero]
/-- a product: the bits of a from k - 1 down -/
def tm : Nat → Nat → Nat → Nat
  | 0, _, _ => 0
  | k + 1, a, b => bitOf a k b ^^^ tm k a (sh b)
theorem xor4 (a b c d : Nat) : a ^^^ b ^^^ (c ^^^ d) = a ^^^ c ^^^ (b ^^^ d) := by
  rw [Nat.xor_assoc, Nat.xor_assoc, ← Nat.xor_assoc b, Nat.xor_comm b c, Nat.xor_assoc c]
theorem tm_xor (k a c b : Nat) : tm k (a ^^^ c) b = tm k a b ^^^ tm k c b := by
  induction k generalizing b with
  | zero => simp [tm]
  | succ k ih => rw [tm, tm, tm, ih, bitOf_xor, xor4]
theorem tm_xor' (k a b c : Nat) : tm k a (b ^^^ c) = tm k a b ^^^ tm k a c := by
  induction k generalizing b c with
  | zero => simp [tm]
  | succ k ih => rw [tm, tm, tm, sh_xor, ih, bitOf_xor', xor4]
theorem tm_sh' (k a b : Nat) : tm k a (sh b) = sh (tm k a b) := by
  induction k generalizing b with
  | zero => simp only [tm]; rfl
  | succ k ih => rw [tm, tm, ih (sh b), bitOf_sh, sh_xor]
theorem tm_zero (k b : Nat) : tm k 0 b = 0 := by
  induction k generalizing b with
  | zero => simp [tm]
  | succ k ih => rw [tm, ih]; simp [bitOf]
/-- a number, its bits one down -/
theorem tm_half (k a b : Nat) : sh (tm k a b) ^^^ bitOf a k b = bitOf a 0 (shN k b) ^^^ tm k (a / 2) b := by
  induction k generalizing b with
  | zero => simp [tm, shN, sh_zero]
  | succ k ih =>
    have hb : bitOf a (k + 1) b = bitOf (a / 2) k b := by unfold bitOf; rw [Nat.testBit_succ]
    rw [tm, sh_xor, ← bitOf_sh, hb, tm, show shN (k + 1) b = shN k (sh b) from rfl]
    have h := ih (sh b)
    generalize bitOf a 0 (shN k (sh b)) = p at *
    generalize bitOf a k (sh b) = q at *
    generalize sh (tm k a (sh b)) = r at *
    generalize bitOf (a / 2) k b = u at *
    generalize tm k (a / 2) (sh b) = t at *
    rw [Nat.xor_comm q, h, Nat.xor_assoc, Nat.xor_comm t]
theorem tm_P (b : Nat) (hb : b < 4294967296) : tm 32 P b = shN 32 b := by
  have h := basis (fun b => tm 32 P b ^^^ shN 32 b) (fun a c => by simp only [tm_xor', shN_xor]; rw [xor4]) (by decide) 32 (by decide) b hb
  have h2 : tm 32 P b ^^^ shN 32 b ^^^ shN 32 b = shN 32 b := by rw [h, Nat.zero_xor]
  rwa [Nat.xor_assoc, Nat.xor_self, Nat.xor_zero] at h2
theorem tm_sh (a b : Nat) (ha : a < 4294967296) (hb : b < 4294967296) : tm 32 (sh a) b = sh (tm 32 a b) := by
  have h := tm_half 32 a b
  have h0 : bitOf a 32 b = 0 := by
    unfold bitOf
    rw [Nat.testBit_lt_two_pow (by simpa using ha)]
    rfl
  rw [h0, Nat.xor_zero] at h
  rw [h]
  unfold sh bitOf
  rw [Nat.testBit_zero]
  by_cases e : a % 2 = 1
  · rw [if_pos e, tm_xor, tm_P b hb, Nat.xor_comm]; simp [e]
  · rw [if_neg e]; simp [e]
def E : Nat := 2147483648
theorem tm_low (k : Nat) (a b : Nat) (h : ∀ j, j < k → a.testBit j = false) : tm k a b = 0 := by
  induction k generalizing b with
  | zero => simp [tm]
  | succ k ih => rw [tm, ih _ (fun j hj => h j (by omega))]; simp [bitOf, h k (by omega)]
theorem tm_E (b : Nat) : tm 32 E b = b := by
  rw [tm, tm_low 31 _ _ (by decide)]
  have : E.testBit 31 = true := by decide
  simp [bitOf, this]
theorem tm_shN (m b : Nat) (hb : b < 4294967296) : tm 32 (shN m E) b = shN m b := by
  have : ∀ m a, a < 4294967296 → tm 32 (shN m a) b = shN m (tm 32 a b) := by
    intro m
    induction m with
    | zero => intro a _; rfl
    | succ m ih => intro a ha; rw [shN, shN, ih _ (sh_lt ha), tm_sh a b ha hb]
  rw [this m E (by decide), tm_E]
theorem E_lt : E < 4294967296 := by decide
theorem xor_same (a b : Nat) : a ^^^ (a ^^^ b) = b := by rw [← Nat.xor_assoc, Nat.xor_self, Nat.zero_xor]
theorem xor_inj {a b c : Nat} (h : a ^^^ b = a ^^^ c) : b = c := by
  have := congrArg (a ^^^ ·) h
  simpa only [xor_same] using this
theorem xor_zero_iff {a b : Nat} : a ^^^ b = 0 ↔ a = b := by
  constructor
  · intro h
    apply xor_inj (a := a)
    rw [Nat.xor_self, h]
  · rintro rfl; exact Nat.xor_self a
/-- sh loses nothing -/
theorem sh_inj0 {d : Nat} (h : d < 4294967296) (h0 : sh d = 0) : d = 0 := by
  unfold sh at h0
  split at h0
  · rw [xor_zero_iff] at h0
    unfold P at h0; omega
  · omega
theorem shN_inj0 {d : Nat} (k : Nat) (h : d < 4294967296) (h0 : shN k d = 0) : d = 0 := by
  induction k generalizing d with
  | zero => exact h0
  | succ k ih => exact sh_inj0 h (ih (sh_lt h) h0)
/-- bytes as one number, the first one lowest -/
def num : List Nat → Nat
  | [] => 0
  | b :: l => b ^^^ num l * 256
theorem run_num (n : Nat) (l : List Nat) : run n l = shN (8 * l.length) (n ^^^ num l) := by
  induction l generalizing n with
  | nil => simp [run, num, shN]
  | cons b l ih =>
    rw [run_cons, ih, num, List.length_cons, show 8 * (l.length + 1) = 8 + 8 * l.length by omega, shN_add, ← Nat.xor_assoc, shN_xor 8, show 256 = 2 ^ 8 from rfl, shN_mul]
    rfl
theorem sum_eq_iff (l m : List Nat) (h : l.length = m.length) : sum l = sum m ↔ shN (8 * l.length) (num l ^^^ num m) = 0 := by
  unfold sum
  rw [run_num, run_num, ← h, shN_xor, shN_xor, shN_xor]
  generalize shN (8 * l.length) F = f
  generalize shN (8 * l.length) (num l) = x
  generalize shN (8 * l.length) (num m) = y
  rw [xor_zero_iff]
  constructor
  · intro e
    rw [Nat.xor_comm _ F, Nat.xor_comm _ F] at e
    exact xor_inj (xor_inj e)
  · rintro rfl; rfl
theorem num_lt (l : List Nat) (h : ∀ b ∈ l, b < 256) : num l < 2 ^ (8 * l.length) := by
  induction l with
  | nil => simp [num]
  | cons b l ih =>
    have h1 := ih fun c hc => h c (List.mem_cons_of_mem _ hc)
    have h2 := h b List.mem_cons_self
    rw [num, List.length_cons]
    refine Nat.xor_lt_two_pow ?_ ?_
    · refine Nat.lt_of_lt_of_le h2 ?_
      exact Nat.pow_le_pow_right (n := 2) (by decide) (show 8 ≤ 8 * (l.length + 1) by omega)
    · rw [show 8 * (l.length + 1) = 8 * l.length + 8 by omega, Nat.pow_add, show 2 ^ 8 = 256 from rfl]
      exact Nat.mul_lt_mul_of_pos_right h1 (by decide)
theorem num_inj (l m : List Nat) (h : l.length = m.length) (hl : ∀ b ∈ l, b < 256) (hm : ∀ b ∈ m, b < 256) (e : num l = num m) : l = m := by
  induction l generalizing m with
  | nil => cases m with
    | nil => rfl
    | cons => simp at h
  | cons b l ih => cases m with
    | nil => simp at h
    | cons c m =>
      have hb := hl b List.mem_cons_self
      have hc := hm c List.mem_cons_self
      rw [num, num] at e
      have e1 : (b ^^^ num l * 256) % 2 ^ 8 = b := by
        rw [Nat.xor_mod_two_pow, Nat.mul_mod_left, Nat.xor_zero, Nat.mod_eq_of_lt hb]
      have e2 : (c ^^^ num m * 256) % 2 ^ 8 = c := by
        rw [Nat.xor_mod_two_pow, Nat.mul_mod_left, Nat.xor_zero, Nat.mod_eq_of_lt hc]
      have ebc : b = c := by rw [← e1, ← e2, e]
      subst ebc
      have := xor_inj e
      rw [ih m (by simpa using h) (fun x hx => hl x (List.mem_cons_of_mem _ hx)) (fun x hx => hm x (List.mem_cons_of_mem _ hx)) (by omega)]
/-- one byte turned -/
theorem num_set (l : List Nat) (j x : Nat) (hj : j < l.length) : num (l.set j (l[j] ^^^ x)) = num l ^^^ x * 256 ^ j := by
  induction l generalizing j with
  | nil => simp at hj
  | cons b l ih =>
    cases j with
    | zero => simp [num, Nat.xor_assoc, Nat.xor_comm x]
    | succ j =>
      simp only [List.set_cons_succ, num, List.getElem_cons_succ]
      rw [ih j (by simpa using hj)]
      rw [Nat.pow_succ, ← Nat.mul_assoc, Nat.xor_assoc]
      congr 1
      have := Nat.shiftLeft_xor_distrib (a := num l) (b := x * 256 ^ j) (i := 8)
      simpa only [Nat.shiftLeft_eq, show 2 ^ 8 = 256 from rfl] using this
/-- a run of 32 bits within a row turns its sum -/
theorem run32 (N f t : Nat) (ht : t < 4294967296) (hf : f ≤ N) : shN N (t % 2 ^ (N - f) * 2 ^ f) = 0 ↔ t % 2 ^ (N - f) = 0 := by
  constructor
  · intro h
    rw [show N = f + (N - f) by omega, shN_add, shN_mul] at h
    rw [show f + (N - f) - f = N - f by omega] at h
    exact shN_inj0 _ (Nat.lt_of_le_of_lt (Nat.mod_le _ _) ht) h
  · intro h; rw [h, Nat.zero_mul, shN_zero]
end Go.Proofs.Ytkdphgcbecldbaa.MixM
/- Walks of mix.made, halves.half and halves.take: the table, and four or eight bits taken into a sum; no condition but that the numbers are of their kinds. -/
namespace Go.Proofs.Ytkdphgcbecldbaa
open Go.RowKit MixM

theorem and15 (n : Nat) (hn : n < 4294967296) : bits .and .u32 (n : Int) 15 = ((n % 16 : Nat) : Int) := by
  rw [show (15 : Int) = ((15 : Nat) : Int) from rfl, u32_and_nat n 15 hn (by omega), nat_mask4]
theorem and1 (n : Nat) (hn : n < 4294967296) : bits .and .u32 (n : Int) 1 = ((n % 2 : Nat) : Int) := by
  rw [show (1 : Int) = ((1 : Nat) : Int) from rfl, u32_and_nat n 1 hn (by omega), nat_mask1]

def tabC (k : Nat) : Array Value := ((List.range 16).map fun i => if i < k then Value.int .u32 ((tab[i]?.getD 0 : Nat) : Int) else .int .u32 0).toArray
theorem tabC_at (k i : Nat) (h : i < 16) : (tabC k)[i]? = some (if i < k then Value.int .u32 ((tab[i]?.getD 0 : Nat) : Int) else .int .u32 0) := by
  simp [tabC, h]

theorem tabC_open : ∃ c0 c1 c2 c3 c4 c5 c6 c7 c8 c9 c10 c11 c12 c13 c14 c15 : Int, tabC 16 = #[.int .u32 c0, .int .u32 c1, .int .u32 c2, .int .u32 c3, .int .u32 c4, .int .u32 c5, .int .u32 c6, .int .u32 c7, .int .u32 c8, .int .u32 c9, .int .u32 c10, .int .u32 c11, .int .u32 c12, .int .u32 c13, .int .u32 c14, .int .u32 c15] :=
  ⟨_, _, _, _, _, _, _, _, _, _, _, _, _, _, _, _, rfl⟩
theorem tabC_set (k : Nat) (h : k < 16) : (tabC k).setIfInBounds k (.int .u32 (shN 4 k : Nat)) = tabC (k + 1) := by
  apply Array.ext_getElem?
  intro i
  rw [Array.getElem?_setIfInBounds]
  have hs : ∀ k, (tabC k).size = 16 := by intro k; simp [tabC]
  by_cases hi : i < 16
  · rw [tabC_at _ i hi, tabC_at _ i hi, hs]
    by_cases e : k = i
    · subst e; simp [h, tab]
    · rw [if_neg e]
      by_cases h2 : i < k
      · rw [if_pos h2, if_pos (by omega)]
      · rw [if_neg h2, if_neg (by omega)]
  · have : ∀ k, (tabC k)[i]? = none := fun k => by rw [Array.getElem?_eq_none]; rw [hs]; omega
    rw [this, this]
    simp [hs]; omega
theorem sh_walk (n : Nat) (h : n < 4294967296) : bits .xor .u32 ((n : Int) / 2) (2197175160 * ((n : Int) % 2)) = ((sh n : Nat) : Int) := by
  have e : ((n : Int) / 2) = ((n / 2 : Nat) : Int) := by omega
  have e2 : (2197175160 * ((n : Int) % 2)) = ((2197175160 * (n % 2) : Nat) : Int) := by omega
  rw [e, e2, u32_xor_nat _ _ (by omega) (by omega)]
  unfold sh P
  rcases Nat.mod_two_eq_zero_or_one n with h | h <;> simp [h]

set_option maxHeartbeats 400000 in
theorem made_any (w : World) :
    Calls Try.prog 46 #[] w fun e w' => e = .returned (.agg (tabC 16)) ∧ Below w.heap.size w w' := by
  go_enter Try.func46, Try.ntmps46
  go_wp2
  go_loopw [1, 2, 3] (fun _ _ i wr => ∃ k : Nat, k ≤ 16 ∧ i = .int .i64 k ∧ wr = w.alloc (.cells (tabC k) 74)) (fun _ _ i _ => 16 - (intOf i).toNat)
  case atStart => 
    refine ⟨0, by omega, rfl, ?_⟩
    rfl
  case round =>
    obtain ⟨k, hk, rfl, rfl⟩ := hrel
    by_cases hlt : k < 16
    · go_wp2
      go_loop [2, 8] (fun n i => ∃ j : Nat, j ≤ 4 ∧ i = .int .i64 j ∧ n = .int .u32 (shN j k : Nat)) (fun _ i => 4 - (intOf i).toNat)
      case atStart => exact ⟨0, by omega, rfl, rfl⟩
      case round => 
        obtain ⟨j, hj, rfl, rfl⟩ := hrel
        have hb : shN j k < 4294967296 := shN_lt _ (by omega)
        have ha := and1 _ hb
        have hk0 : (tabC k)[k]? = some (.int .u32 0) := by rw [tabC_at k k hlt, if_neg (by omega)]
        by_cases hjl : j < 4
        · go_wp2
          refine ⟨⟨j + 1, by omega, by go_num, ?_⟩, by simp [intOf]; omega⟩
          rw [sh_walk _ hb, show shN (j + 1) k = sh (shN j k) by rw [shN_add]; rfl]
        · go_wp2
          obtain rfl : j = 4 := by omega
          refine ⟨⟨k + 1, by omega, by go_num, ?_⟩, by simp [intOf]; omega⟩
          rw [tabC_set k hlt]
    · obtain rfl : k = 16 := by omega
      obtain ⟨c0, c1, c2, c3, c4, c5, c6, c7, c8, c9, c10, c11, c12, c13, c14, c15, hC⟩ := tabC_open
      have HC := Lib.hid hC
      rw [hC]
      clear hC
      go_wp2
      refine bodyPost_ret (v := .agg #[.int .u32 c0, .int .u32 c1, .int .u32 c2, .int .u32 c3, .int .u32 c4, .int .u32 c5, .int .u32 c6, .int .u32 c7, .int .u32 c8, .int .u32 c9, .int .u32 c10, .int .u32 c11, .int .u32 c12, .int .u32 c13, .int .u32 c14, .int .u32 c15]) (by simp [results, Try.results46, go_sem]) rfl ⟨?_, ?_⟩
      · rw [HC.out]
      · exact (Below.refl _ _).alloc (Nat.le_refl _) _

/-- the table lies at block b -/
def TabAt (w : World) (b : Nat) : Prop := ∀ i, i < 16 → w.cell? ⟨b, i, none⟩ = some (.int .u32 ((tab[i]?.getD 0 : Nat) : Int))
theorem TabAt.below {w w' : World} {B b : Nat} (h : TabAt w b) (hb : Below B w w') (hlt : b < B) : TabAt w' b := fun i hi => (hb.cell hlt).trans (h i hi)
theorem tab_lt (i : Nat) : tab[i]?.getD 0 < 4294967296 := by
  by_cases h : i < 16
  · simp only [tab, List.getElem?_map, List.getElem?_range h, Option.map_some, Option.getD_some]
    exact shN_lt _ (by omega)
  · rw [List.getElem?_eq_none (by simp [tab]; omega)]; decide

set_option maxHeartbeats 400000 in
theorem half_any (b : Nat) (n : Nat) (w : World) (hn : n < 4294967296) (ht : TabAt w b) :
    Calls Try.prog 47 #[.pointer (some ⟨b, 0, none⟩), .int .u32 n] w fun e w' => e = .returned (.int .u32 ((shN 4 n : Nat) : Int)) ∧ w = w' := by
  have h1 := and15 n hn
  have h2 : n % 16 < 16 := Nat.mod_lt _ (by decide)
  have hc := ht _ h2
  have h4 : bits .xor .u32 ((n : Int) / 16) ((tab[n % 16]?.getD 0 : Nat) : Int) = ((shN 4 n : Nat) : Int) := by
    have e : ((n : Int) / 16) = ((n / 16 : Nat) : Int) := by omega
    rw [e, u32_xor_nat _ _ (by omega) (tab_lt _), half_eq]
  have H4 := Lib.hid h4
  clear h4 ht
  go_enter Try.func47, Try.ntmps47
  go_wp2
  go_ret
  exact ⟨by rw [H4.out]; rfl, rfl⟩

set_option maxHeartbeats 400000 in
theorem take_any (b : Nat) (n x : Nat) (w : World) (hn : n < 4294967296) (hx : x < 256) (ht : TabAt w b) :
    Calls Try.prog 48 #[.pointer (some ⟨b, 0, none⟩), .int .u32 n, .int .u8 x] w fun e w' => e = .returned (.int .u32 ((MixM.take n x : Nat) : Int)) ∧ w = w' := by
  have hl : n ^^^ x < 4294967296 := xor_lt hn (by omega)
  have h4 : bits .xor .u32 (n : Int) (x : Int) = ((n ^^^ x : Nat) : Int) := u32_xor_nat _ _ hn (by omega)
  have HT := Lib.hid ht
  clear ht
  go_enter Try.func48, Try.ntmps48
  go_wp2_with fail
  refine (half_any b (n ^^^ x) _ hl HT.out).mono ?_
  rintro e w' ⟨rfl, rfl⟩
  go_wp2_with fail
  refine (half_any b (shN 4 (n ^^^ x)) _ (shN_lt _ hl) HT.out).mono ?_
  rintro e w' ⟨rfl, rfl⟩
  go_wp2_with fail
  go_ret
  exact ⟨by rw [MixM.take, show 8 = 4 + 4 from rfl, shN_add]; rfl, rfl⟩
end Go.Proofs.Ytkdphgcbecldbaa
/- Words for memory: a slice that reads as bytes, a slice of such slices. No program in sight. -/
namespace Go.Proofs.Ytkdphgcbecldbaa
open Go.RowKit

/-- a slice value's three parts -/
structure Sl where
  a : Option Addr
  n : Nat
  c : Nat
def Sl.v (s : Sl) : Value := .slice s.a s.n s.c
/-- the slice s lies below block B and has one-cell elements f 0, f 1, .. -/
def Lies (w : World) (B : Nat) (s : Sl) (f : Nat → Value) : Prop :=
  s.n ≤ s.c ∧ s.c ≤ 9223372036854775807 ∧ (0 < s.n → ∃ b o, s.a = some ⟨b, o, none⟩ ∧ b < B ∧ ∀ i, i < s.n → w.cell? ⟨b, o + i, none⟩ = some (f i))
theorem Lies.keep {w w' : World} {B : Nat} {s : Sl} {f : Nat → Value} (h : Lies w B s f) (hk : ∀ p : Addr, p.block < B → w'.cell? p = w.cell? p) : Lies w' B s f :=
  ⟨h.1, h.2.1, fun hn => by
    obtain ⟨b, o, e, hb, hc⟩ := h.2.2 hn
    exact ⟨b, o, e, hb, fun i hi => (hk _ hb).trans (hc i hi)⟩⟩
theorem Lies.below {w w' : World} {B B' : Nat} {s : Sl} {f : Nat → Value} (h : Lies w B s f) (hb : Below B' w w') (hB : B ≤ B') : Lies w' B s f :=
  h.keep fun _ hp => hb.cell (Nat.lt_of_lt_of_le hp hB)
theorem Lies.more {w : World} {B B' : Nat} {s : Sl} {f : Nat → Value} (h : Lies w B s f) (hB : B ≤ B') : Lies w B' s f :=
  ⟨h.1, h.2.1, fun hn => by
    obtain ⟨b, o, e, hb, hc⟩ := h.2.2 hn
    exact ⟨b, o, e, by omega, hc⟩⟩
theorem Lies.congr {w : World} {B : Nat} {s : Sl} {f g : Nat → Value} (h : Lies w B s f) (e : ∀ i, i < s.n → f i = g i) : Lies w B s g :=
  ⟨h.1, h.2.1, fun hn => by
    obtain ⟨b, o, e', hb, hc⟩ := h.2.2 hn
    exact ⟨b, o, e', hb, fun i hi => by rw [hc i hi, e i hi]⟩⟩
/-- what is left of a slice from k on -/
theorem Lies.cut {w : World} {B : Nat} {s : Sl} {f : Nat → Value} (h : Lies w B s f) (k : Nat) (hk : k ≤ s.n) :
    Lies w B ⟨if s.c = k then s.a else s.a.map (·.add k), s.n - k, s.c - k⟩ fun i => f (k + i) := by
  obtain ⟨h1, h2, h3⟩ := h
  refine ⟨by simp only; omega, by simp only; omega, fun hn => ?_⟩
  simp only at hn
  obtain ⟨b, o, e, hb, hc⟩ := h3 (by omega)
  have hne : ¬ s.c = k := by omega
  refine ⟨b, o + k, ?_, hb, fun i hi => ?_⟩
  · simp only [if_neg hne, e, Option.map_some, Addr.add]
    by_cases hz : k = 0
    · simp [hz]
    · simp [hz]
  · simp only at hi
    have := hc (k + i) (by omega)
    rw [show o + k + i = o + (k + i) by omega]
    exact this

/-- a byte of a list, as a value -/
def bv (l : List Nat) (i : Nat) : Value := .int .u8 ((l.getD i 0 : Nat) : Int)
def Small (l : List Nat) : Prop := ∀ x, x ∈ l → x < 256
theorem Small.at_ {l : List Nat} (h : Small l) (i : Nat) : l.getD i 0 < 256 := by
  rw [List.getD_eq_getElem?_getD]
  rcases Nat.lt_or_ge i l.length with hi | hi
  · rw [List.getElem?_eq_getElem hi]; exact h _ (List.getElem_mem hi)
  · rw [List.getElem?_eq_none hi]; decide
/-- the slice s reads as the bytes l -/
def Bs (w : World) (B : Nat) (s : Sl) (l : List Nat) : Prop := s.n = l.length ∧ Small l ∧ Lies w B s (bv l)
theorem Bs.below {w w' : World} {B B' : Nat} {s : Sl} {l : List Nat} (h : Bs w B s l) (hb : Below B' w w') (hB : B ≤ B') : Bs w' B s l := ⟨h.1, h.2.1, h.2.2.below hb hB⟩
theorem Bs.more {w : World} {B B' : Nat} {s : Sl} {l : List Nat} (h : Bs w B s l) (hB : B ≤ B') : Bs w B' s l := ⟨h.1, h.2.1, h.2.2.more hB⟩
theorem Bs.cut {w : World} {B : Nat} {s : Sl} {l : List Nat} (h : Bs w B s l) (k : Nat) (hk : k ≤ s.n) :
    Bs w B ⟨if s.c = k then s.a else s.a.map (·.add k), s.n - k, s.c - k⟩ (l.drop k) :=
  ⟨by simp [h.1], fun x hx => h.2.1 x (List.mem_of_mem_drop hx), (h.2.2.cut k hk).congr fun i _ => by simp [bv, List.getElem?_drop]⟩
/-- the bytes of a slice that is not empty -/
theorem Bs.at_ {w : World} {B : Nat} {s : Sl} {l : List Nat} (h : Bs w B s l) (hn : 0 < s.n) : ∃ b o, s.a = some ⟨b, o, none⟩ ∧ b < B ∧ ∀ i, i < s.n → w.cell? ⟨b, o + i, none⟩ = some (.int .u8 ((l.getD i 0 : Nat) : Int)) := h.2.2.2.2 hn

/-- the slice s has the slices ss, which read as the bytes ls -/
def Rs (w : World) (B : Nat) (s : Sl) (ss : List Sl) (ls : List (List Nat)) : Prop :=
  s.n = ss.length ∧ ss.length = ls.length ∧ Lies w B s (fun i => (ss.getD i ⟨none, 0, 0⟩).v) ∧ ∀ i, i < s.n → Bs w B (ss.getD i ⟨none, 0, 0⟩) (ls.getD i [])
theorem Rs.below {w w' : World} {B B' : Nat} {s : Sl} {ss : List Sl} {ls : List (List Nat)} (h : Rs w B s ss ls) (hb : Below B' w w') (hB : B ≤ B') : Rs w' B s ss ls :=
  ⟨h.1, h.2.1, h.2.2.1.below hb hB, fun i hi => (h.2.2.2 i hi).below hb hB⟩
end Go.Proofs.Ytkdphgcbecldbaa
