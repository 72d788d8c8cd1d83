/- errors.Is by its contracts, for the errors of packages mix and dev: nil, a number as an error, such a number wrapped. -/
import Derived.Test.YtkdphgcbecldbaaRows
import Derived.WalkKit
import Derived.WalkSpells
import Derived.WalkLawsBesides
import Derived.Lib.Hide
import Derived.LaidEql
import Derived.Stop.Asserts
import Derived.RowKitTokens
namespace Go.Proofs.Ytkdphgcbecldbaa
open Go.RowKit Go.Extern.Stop Go.Stop Go.Extern

section
variable {P : Program} (w : World)
theorem run_equalIn_iface_int (d : Nat) {ti tn : TypeId} {ms : Array (String × TypeId)} {i : TypeInfo} {k : IntKind} (a b : Int)
    (hi : P.underlying ti = some (.interface ms)) (hn : P.underlying tn = some (.int k)) (hinfo : P.info? tn = some i) (hcomp : i.comparable = true) :
    (Op.equalIn (d + 2) ti (.iface tn (.int k a)) (.iface tn (.int k b))).run P w = .ok (a == b) w := by
  simp [Op.equalIn, run_underlying hi, run_underlying hn, typeInfo, hinfo, hcomp]
/-- two interface values of one integer type are equal as the numbers are -/
theorem run_eql_iface_int {ti tn : TypeId} {ms : Array (String × TypeId)} {i : TypeInfo} {k : IntKind} (a b : Int)
    (hi : P.underlying ti = some (.interface ms)) (hn : P.underlying tn = some (.int k)) (hinfo : P.info? tn = some i) (hcomp : i.comparable = true) :
    (binOp .eql ti (.iface tn (.int k a)) (.iface tn (.int k b))).run P w = .ok (.bool (a == b)) w := by
  simp only [binOp]
  simp [Op.equal, Op.maxDepth, run_equalIn_iface_int w 9998 a b hi hn hinfo hcomp]
end

theorem isTypeOf72 (v : Value) (w : World) : (Extern.ReflectliteType.typeOf #[.iface 72 v]).run Try.prog w = .ok (.iface 134 (.agg #[.pointer (some ⟨0, 72, none⟩)])) w := by kernel_rfl
theorem isTypeOf89 (v : Value) (w : World) : (Extern.ReflectliteType.typeOf #[.iface 89 v]).run Try.prog w = .ok (.iface 134 (.agg #[.pointer (some ⟨0, 89, none⟩)])) w := by kernel_rfl
theorem find110 : (Extern.find Try.f110).isSome = true := by kernel_rfl
/-- what the model has for the method Comparable of reflectlite's types -/
noncomputable def cmpE : Array Value → Sem Value := (Extern.find Try.f110).get find110
theorem find110' : Extern.find Try.f110 = some cmpE := by simp [cmpE]
theorem isComparable72 (w : World) : (cmpE #[.agg #[.pointer (some ⟨0, 72, none⟩)]]).run Try.prog w = .ok (.bool true) w := by kernel_rfl
theorem isComparable89 (w : World) : (cmpE #[.agg #[.pointer (some ⟨0, 89, none⟩)]]).run Try.prog w = .ok (.bool true) w := by kernel_rfl
theorem mComparable (v : Value) (w : World) : (Go.method 275 134 v "Comparable").run Try.prog w = .ok (110, v) w := by kernel_rfl
theorem mUnwrap116 (v : Value) (w : World) : (Go.method 275 116 v "Unwrap").run Try.prog w = .ok (106, v) w := by kernel_rfl
theorem mUnwrap91 (v : Value) (w : World) : (Go.method 275 91 v "Unwrap").run Try.prog w = .ok (105, v) w := by kernel_rfl
theorem isComp72 : (Try.prog.info? 72).map (·.comparable) = some true := by kernel_rfl
theorem isComp89 : (Try.prog.info? 89).map (·.comparable) = some true := by kernel_rfl
theorem noIs72 (v : Value) (xT : TypeId) (w : World) : (Instr.typeAssert (.iface 72 v) xT 136 true).run Try.prog w = .ok (.tuple #[.nilIface, .bool false]) w := run_typeAssert_lacksB Try.underlying136 (by kernel_rfl) (by kernel_rfl) v xT w
theorem noIs89 (v : Value) (xT : TypeId) (w : World) : (Instr.typeAssert (.iface 89 v) xT 136 true).run Try.prog w = .ok (.tuple #[.nilIface, .bool false]) w := run_typeAssert_lacksB Try.underlying136 (by kernel_rfl) (by kernel_rfl) v xT w
theorem noIs91 (v : Value) (xT : TypeId) (w : World) : (Instr.typeAssert (.iface 91 v) xT 136 true).run Try.prog w = .ok (.tuple #[.nilIface, .bool false]) w := run_typeAssert_lacksB Try.underlying136 (by kernel_rfl) (by kernel_rfl) v xT w
theorem noIs116 (v : Value) (xT : TypeId) (w : World) : (Instr.typeAssert (.iface 116 v) xT 136 true).run Try.prog w = .ok (.tuple #[.nilIface, .bool false]) w := run_typeAssert_lacksB Try.underlying136 (by kernel_rfl) (by kernel_rfl) v xT w
theorem noUnwrap89 (v : Value) (xT : TypeId) (w : World) : (Instr.typeAssert (.iface 89 v) xT 138 true).run Try.prog w = .ok (.tuple #[.nilIface, .bool false]) w := run_typeAssert_lacksB Try.underlying138 (by kernel_rfl) (by kernel_rfl) v xT w
theorem noUnwraps89 (v : Value) (xT : TypeId) (w : World) : (Instr.typeAssert (.iface 89 v) xT 139 true).run Try.prog w = .ok (.tuple #[.nilIface, .bool false]) w := run_typeAssert_lacksB Try.underlying139 (by kernel_rfl) (by kernel_rfl) v xT w
theorem hasUnwrap91 (v : Value) (xT : TypeId) (w : World) : (Instr.typeAssert (.iface 91 v) xT 138 true).run Try.prog w = .ok (.tuple #[.iface 91 v, .bool true]) w := run_typeAssert_hasB Try.underlying138 (by kernel_rfl) v xT w
theorem hasUnwrap116 (v : Value) (xT : TypeId) (w : World) : (Instr.typeAssert (.iface 116 v) xT 138 true).run Try.prog w = .ok (.tuple #[.iface 116 v, .bool true]) w := run_typeAssert_hasB Try.underlying138 (by kernel_rfl) v xT w

set_option maxHeartbeats 400000 in
theorem unwrap116 (a b c : Int) (w : World) :
    Calls Try.prog 106 #[.agg #[.int .u32 a, .int .u32 b, .int .i64 c]] w fun e w' => e = .returned (.iface 72 (.int .i64 c)) ∧ Below w.heap.size w w' := by
  go_enter Try.func106, Try.ntmps106
  go_wp2
  go_ret
  exact ⟨rfl, (Below.refl _ _).alloc (Nat.le_refl _) _⟩
set_option maxHeartbeats 400000 in
theorem unwrap91 (n : Int) (v : Value) (w : World) :
    Calls Try.prog 105 #[.agg #[.int .i64 n, v]] w fun e w' => e = .returned v ∧ Below w.heap.size w w' := by
  go_enter Try.func105, Try.ntmps105
  go_wp2
  go_ret
  exact ⟨rfl, (Below.refl _ _).alloc (Nat.le_refl _) _⟩
set_option maxHeartbeats 400000 in
theorem is_mix_nil (x : Value) (w : World) :
    Calls Try.prog 44 #[.nilIface, .iface 72 x] w fun e w' => e = .returned (.bool false) ∧ w = w' := by
  have hn := run_eql_iface_nil_left (P := Try.prog) w 72 x Try.underlying70
  go_enter Try.func44, Try.ntmps44
  go_wp2
  go_ret
  exact ⟨rfl, rfl⟩
set_option maxRecDepth 100000 in
set_option maxHeartbeats 400000 in
theorem is75_mix (a b c : Int) (w : World) :
    Calls Try.prog 75 #[.iface 116 (.agg #[.int .u32 a, .int .u32 b, .int .i64 c]), .iface 72 (.int .i64 c), .bool true] w fun e w' => e = .returned (.bool true) ∧ Below w.heap.size w w' := by
  obtain ⟨i, hi, hcmp⟩ := Option.map_eq_some_iff.1 isComp72
  have mU := mUnwrap116
  have nW := noIs116
  have uW := hasUnwrap116
  have hty := run_eql_iface_types (P := Try.prog) 116 72 (.agg #[.int .u32 a, .int .u32 b, .int .i64 c]) (.int .i64 c) Try.underlying70 (by decide) w
  have heq := fun w => run_eql_iface_int (P := Try.prog) w c c Try.underlying70 Try.underlying72 hi hcmp
  go_enter Try.func75, Try.ntmps75
  go_wp2_with fail
  refine wp_loop_rounds 2 ?_
  rw [rounds_succ]
  go_wp2_with fail
  refine (unwrap116 a b c _).mono ?_
  rintro e w1 ⟨rfl, hb⟩
  go_wp2_with fail
  rw [rounds_succ]
  go_wp2_with fail
  go_ret
  exact ⟨rfl, hb⟩
set_option maxRecDepth 100000 in
set_option maxHeartbeats 400000 in
theorem is_mix_wrong (a b c : Int) (w : World) :
    Calls Try.prog 44 #[.iface 116 (.agg #[.int .u32 a, .int .u32 b, .int .i64 c]), .iface 72 (.int .i64 c)] w fun e w' => e = .returned (.bool true) ∧ Below w.heap.size w w' := by
  have h8 := @run_callFunc_extern Try.prog 74 _ Extern.ReflectliteType.typeOf Try.func74 (by kernel_rfl) (by kernel_rfl) (by kernel_rfl) (by kernel_rfl)
  have h32 := @run_callFunc_extern Try.prog 110 _ cmpE Try.func110 (by kernel_rfl) (by kernel_rfl) (by kernel_rfl) find110'
  have tT := isTypeOf72
  have cT := isComparable72
  have mC := mComparable
  go_enter Try.func44, Try.ntmps44
  go_wp2_with fail
  refine (is75_mix a b c _).mono ?_
  rintro e w1 ⟨rfl, hb⟩
  go_wp2_with fail
  go_ret
  exact ⟨rfl, hb⟩

set_option maxRecDepth 100000 in
set_option maxHeartbeats 400000 in
theorem is75_dev_same (c : Int) (w : World) :
    Calls Try.prog 75 #[.iface 89 (.int .i64 c), .iface 89 (.int .i64 c), .bool true] w fun e w' => e = .returned (.bool true) ∧ w = w' := by
  obtain ⟨i, hi, hcmp⟩ := Option.map_eq_some_iff.1 isComp89
  have heq := fun w => run_eql_iface_int (P := Try.prog) w c c Try.underlying70 Try.underlying89 hi hcmp
  go_enter Try.func75, Try.ntmps75
  go_wp2_with fail
  refine wp_loop_rounds 1 ?_
  rw [rounds_succ]
  go_wp2_with fail
  go_ret
  exact ⟨rfl, rfl⟩
set_option maxRecDepth 100000 in
set_option maxHeartbeats 400000 in
theorem is75_dev_other (c x : Int) (hne : (c == x) = false) (w : World) :
    Calls Try.prog 75 #[.iface 89 (.int .i64 c), .iface 89 (.int .i64 x), .bool true] w fun e w' => e = .returned (.bool false) ∧ w = w' := by
  obtain ⟨i, hi, hcmp⟩ := Option.map_eq_some_iff.1 isComp89
  have nW := noIs89
  have uW := noUnwrap89
  have vW := noUnwraps89
  have heq := fun w => run_eql_iface_int (P := Try.prog) w c x Try.underlying70 Try.underlying89 hi hcmp
  go_enter Try.func75, Try.ntmps75
  go_wp2_with fail
  refine wp_loop_rounds 1 ?_
  rw [rounds_succ]
  go_wp2_with fail
  go_ret
  exact ⟨rfl, rfl⟩
set_option maxRecDepth 100000 in
set_option maxHeartbeats 400000 in
theorem is75_at_same (n c : Int) (w : World) :
    Calls Try.prog 75 #[.iface 91 (.agg #[.int .i64 n, .iface 89 (.int .i64 c)]), .iface 89 (.int .i64 c), .bool true] w fun e w' => e = .returned (.bool true) ∧ Below w.heap.size w w' := by
  obtain ⟨i, hi, hcmp⟩ := Option.map_eq_some_iff.1 isComp89
  have mU := mUnwrap91
  have nW := noIs91
  have uW := hasUnwrap91
  have hty := run_eql_iface_types (P := Try.prog) 91 89 (.agg #[.int .i64 n, .iface 89 (.int .i64 c)]) (.int .i64 c) Try.underlying70 (by decide) w
  have heq := fun w => run_eql_iface_int (P := Try.prog) w c c Try.underlying70 Try.underlying89 hi hcmp
  go_enter Try.func75, Try.ntmps75
  go_wp2_with fail
  refine wp_loop_rounds 2 ?_
  rw [rounds_succ]
  go_wp2_with fail
  refine (unwrap91 n _ _).mono ?_
  rintro e w1 ⟨rfl, hb⟩
  go_wp2_with fail
  rw [rounds_succ]
  go_wp2_with fail
  go_ret
  exact ⟨rfl, hb⟩
set_option maxRecDepth 100000 in
set_option maxHeartbeats 400000 in
theorem is75_at_other (n c x : Int) (hne : (c == x) = false) (w : World) :
    Calls Try.prog 75 #[.iface 91 (.agg #[.int .i64 n, .iface 89 (.int .i64 c)]), .iface 89 (.int .i64 x), .bool true] w fun e w' => e = .returned (.bool false) ∧ Below w.heap.size w w' := by
  obtain ⟨i, hi, hcmp⟩ := Option.map_eq_some_iff.1 isComp89
  have mU := mUnwrap91
  have nW := noIs91
  have uW := hasUnwrap91
  have nW2 := noIs89
  have uW2 := noUnwrap89
  have vW2 := noUnwraps89
  have hty := run_eql_iface_types (P := Try.prog) 91 89 (.agg #[.int .i64 n, .iface 89 (.int .i64 c)]) (.int .i64 x) Try.underlying70 (by decide) w
  have heq := fun w => run_eql_iface_int (P := Try.prog) w c x Try.underlying70 Try.underlying89 hi hcmp
  go_enter Try.func75, Try.ntmps75
  go_wp2_with fail
  refine wp_loop_rounds 2 ?_
  rw [rounds_succ]
  go_wp2_with fail
  refine (unwrap91 n _ _).mono ?_
  rintro e w1 ⟨rfl, hb⟩
  go_wp2_with fail
  rw [rounds_succ]
  go_wp2_with fail
  go_ret
  exact ⟨rfl, hb⟩
set_option maxHeartbeats 400000 in
theorem is_dev_nil (x : Value) (w : World) :
    Calls Try.prog 44 #[.nilIface, .iface 89 x] w fun e w' => e = .returned (.bool false) ∧ w = w' := by
  have hn := run_eql_iface_nil_left (P := Try.prog) w 89 x Try.underlying70
  go_enter Try.func44, Try.ntmps44
  go_wp2
  go_ret
  exact ⟨rfl, rfl⟩
/-- errors.Is of a number and a number -/
theorem is_dev_code (c x : Int) (w : World) :
    Calls Try.prog 44 #[.iface 89 (.int .i64 c), .iface 89 (.int .i64 x)] w fun e w' => e = .returned (.bool (c == x)) ∧ w = w' := by
  have h8 := @run_callFunc_extern Try.prog 74 _ Extern.ReflectliteType.typeOf Try.func74 (by kernel_rfl) (by kernel_rfl) (by kernel_rfl) (by kernel_rfl)
  have h32 := @run_callFunc_extern Try.prog 110 _ cmpE Try.func110 (by kernel_rfl) (by kernel_rfl) (by kernel_rfl) find110'
  have tT := isTypeOf89
  have cT := isComparable89
  have mC := mComparable
  go_enter Try.func44, Try.ntmps44
  go_wp2_with fail
  by_cases h : c = x
  · subst h
    refine (is75_dev_same c _).mono ?_
    rintro e w1 ⟨rfl, rfl⟩
    go_wp2_with fail
    go_ret
    exact ⟨by simp, rfl⟩
  · have h' : (c == x) = false := by simpa using h
    refine (is75_dev_other c x h' _).mono ?_
    rintro e w1 ⟨rfl, rfl⟩
    go_wp2_with fail
    go_ret
    exact ⟨by rw [h']; rfl, rfl⟩
/-- errors.Is of a wrapped number and a number -/
theorem is_dev_at (n c x : Int) (w : World) :
    Calls Try.prog 44 #[.iface 91 (.agg #[.int .i64 n, .iface 89 (.int .i64 c)]), .iface 89 (.int .i64 x)] w fun e w' => e = .returned (.bool (c == x)) ∧ Below w.heap.size w w' := by
  have h8 := @run_callFunc_extern Try.prog 74 _ Extern.ReflectliteType.typeOf Try.func74 (by kernel_rfl) (by kernel_rfl) (by kernel_rfl) (by kernel_rfl)
  have h32 := @run_callFunc_extern Try.prog 110 _ cmpE Try.func110 (by kernel_rfl) (by kernel_rfl) (by kernel_rfl) find110'
  have tT := isTypeOf89
  have cT := isComparable89
  have mC := mComparable
  go_enter Try.func44, Try.ntmps44
  go_wp2_with fail
  by_cases h : c = x
  · subst h
    refine (is75_at_same n c _).mono ?_
    rintro e w1 ⟨rfl, hb⟩
    go_wp2_with fail
    go_ret
    exact ⟨by simp, hb⟩
  · have h' : (c == x) = false := by simpa using h
    refine (is75_at_other n c x h' _).mono ?_
    rintro e w1 ⟨rfl, hb⟩
    go_wp2_with fail
    go_ret
    exact ⟨by rw [h']; rfl, hb⟩
end Go.Proofs.Ytkdphgcbecldbaa
