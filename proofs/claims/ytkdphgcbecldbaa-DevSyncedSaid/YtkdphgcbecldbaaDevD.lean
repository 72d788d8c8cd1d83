/- The disk: up, there, fall, turn. -/
import Derived.Test.YtkdphgcbecldbaaDevB
import Derived.Test.YtkdphgcbecldbaaDevC
namespace Go.Proofs.Ytkdphgcbecldbaa
open Go.RowKit
theorem Dsk.c {w : World} {D : Dk} (h : Dsk w D) (j : Nat) {v : Value} (hv : D.row[j]? = some v) : w.cell? ⟨D.d, j, none⟩ = some v := by
  have := h.row j v hv
  rwa [Nat.zero_add] at this
theorem Dsk.f {w : World} {D : Dk} (h : Dsk w D) (j : Nat) (hj : j < 7) : w.frozen? ⟨D.d, j, none⟩ = false := by
  have := (h.rowT j hj).2
  rwa [Nat.zero_add] at this

def Dk.up (D : Dk) : De := if D.dn then .cd 11 else .ok
def Dk.there (D : Dk) (n : Int) : De := if n < 0 ∨ (D.k : Int) ≤ n then .at_ n 2 else .ok
set_option maxHeartbeats 400000 in
theorem up_any (D : Dk) (w : World) (h : Dsk w D) : Calls Try.prog 53 #[.pointer (some ⟨D.d, 0, none⟩)] w fun r w' => r = .returned D.up.v ∧ w = w' := by
  have h3 := h.c 3 rfl
  have h4 := h.c 4 rfl
  have hk := h.kpos
  clear h
  cases hd : D.dn with
  | true =>
    have hu : D.up = .cd 11 := by simp [Dk.up, hd]
    rw [hu]
    rw [hd] at h3
    clear hu hd
    go_enter Try.func53, Try.ntmps53
    go_wp2_with fail
    go_ret
    exact ⟨rfl, rfl⟩
  | false =>
    have hu : D.up = .ok := by simp [Dk.up, hd]
    rw [hu]
    rw [hd] at h3
    clear hu hd
    go_enter Try.func53, Try.ntmps53
    go_wp2_with fail
    go_ret
    exact ⟨rfl, rfl⟩
set_option maxHeartbeats 400000 in
theorem there_any (D : Dk) (n : Int) (w : World) (h : Dsk w D) : Calls Try.prog 54 #[.pointer (some ⟨D.d, 0, none⟩), .int .i64 n] w fun r w' => r = .returned (D.there n).v ∧ w = w' := by
  have h4 := h.c 4 rfl
  have hk := h.kpos
  clear h
  by_cases hn : n < 0
  · have hu : D.there n = .at_ n 2 := if_pos (.inl hn)
    rw [hu]
    clear hu
    go_enter Try.func54, Try.ntmps54
    go_wp2_with fail
    go_ret
    exact ⟨rfl, rfl⟩
  · by_cases hn2 : (D.k : Int) ≤ n
    · have hu : D.there n = .at_ n 2 := if_pos (.inr hn2)
      rw [hu]
      clear hu
      go_enter Try.func54, Try.ntmps54
      go_wp2_with fail
      go_ret
      exact ⟨rfl, rfl⟩
    · have hu : D.there n = .ok := if_neg (by omega)
      rw [hu]
      clear hu
      go_enter Try.func54, Try.ntmps54
      go_wp2_with fail
      go_ret
      exact ⟨rfl, rfl⟩

/-- the disk has moved on: its own parts alone have turned -/
def Mv (w : World) (D : Dk) (w' : World) (D' : Dk) : Prop :=
  Kp D.fp w w' ∧ Dsk w' D' ∧ (∀ b, D'.fp b → D.fp b ∨ w.heap.size ≤ b) ∧ (D'.d, D'.bb, D'.hb, D'.base, D'.k) = (D.d, D.bb, D.hb, D.base, D.k)
theorem Mv.trans {a b c : World} {D E F : Dk} (h : Mv a D b E) (k : Mv b E c F) : Mv a D c F :=
  ⟨h.1.trans k.1 h.2.2.1, k.2.1, fun i hi => (k.2.2.1 i hi).elim (h.2.2.1 i) (fun hh => .inr (Nat.le_trans h.1.size hh)), k.2.2.2.trans h.2.2.2⟩
theorem Mv.refl {w : World} {D : Dk} (h : Dsk w D) : Mv w D w D := ⟨Kp.refl _ _, h, fun _ hb => .inl hb, rfl⟩
theorem Mv.gr {w w' : World} {D : Dk} (h : Dsk w D) (g : Gr w w') : Mv w D w' D := ⟨Kp.of_gr g, h.gr g, fun _ hb => .inl hb, rfl⟩
theorem Mv.put {w : World} {D D' : Dk} (h : Dsk w D) (j : Nat) (v : Value) (hj : j < 4) (hr : D'.row = D.row.set j v) (ha : 0 ≤ D'.ar ∧ D'.ar ≤ 9223372036854775807)
    (e : (D'.d, D'.bb, D'.hb, D'.base, D'.k, D'.bl, D'.hu, D'.wv, D'.ws) = (D.d, D.bb, D.hb, D.base, D.k, D.bl, D.hu, D.wv, D.ws)) : Mv w D (w.setCell ⟨D.d, j, none⟩ v) D' := by
  refine ⟨(Kp.refl _ _).setCell (.inl (.inl rfl)) v, h.put j v hj hr ha e, ?_, ?_⟩
  · simp only [Prod.mk.injEq] at e
    obtain ⟨e1, e2, e3, e4, e5, e6, e7, e8, e9⟩ := e
    intro b hb
    left
    unfold Dk.fp at *
    rw [e1, e2, e3, e8] at hb
    exact hb
  · simp only [Prod.mk.injEq] at e ⊢
    obtain ⟨e1, e2, e3, e4, e5, e6, e7, e8, e9⟩ := e
    exact ⟨e1, e2, e3, e4, e5⟩
def Dk.fall (D : Dk) : Dk := { D with ar := 0, dn := true, cr := wrap64 (D.cr + 1) }
def Dk.turn (D : Dk) : Dk := { D with ar := max (D.ar - 1) 0, tu := wrap64 (D.tu + 1) }
set_option maxHeartbeats 400000 in
theorem fall_any (D : Dk) (w : World) (h : Dsk w D) : Calls Try.prog 58 #[.pointer (some ⟨D.d, 0, none⟩)] w fun r w' => r = .returned (.tuple #[]) ∧ Mv w D w' D.fall := by
  have h1 := h.c 1 rfl
  have h2 := h.c 2 rfl
  have h3 := h.c 3 rfl
  have f1 := h.f 1 (by omega)
  have f2 := h.f 2 (by omega)
  have f3 := h.f 3 (by omega)
  have HH := Lib.hid h
  clear h
  go_enter Try.func58, Try.ntmps58
  go_wp2_with fail
  go_end0
  refine ⟨rfl, ?_⟩
  have m1 := Mv.put (D' := { D with ar := 0 }) HH.out 2 (.int .i64 0) (by omega) rfl (by simp) rfl
  have m2 := m1.trans (Mv.put (D' := { D with ar := 0, dn := true }) m1.2.1 3 (.bool true) (by omega) rfl (by simp) rfl)
  exact m2.trans (Mv.put (D' := D.fall) m2.2.1 1 (.int .i64 (wrap64 (D.cr + 1))) (by omega) rfl (by simp [Dk.fall]) rfl)
set_option maxHeartbeats 400000 in
theorem turn_no (D : Dk) (w : World) (h : Dsk w D) (h1 : D.ar = 1) : Calls Try.prog 55 #[.pointer (some ⟨D.d, 0, none⟩)] w fun r w' => r = .returned (De.cd 11).v ∧ Mv w D w' D.fall := by
  have h2 := h.c 2 rfl
  have HH := Lib.hid h
  clear h
  rw [h1] at h2
  go_enter Try.func55, Try.ntmps55
  go_wp2_with fail
  refine (fall_any D _ HH.out).mono ?_
  rintro e w1 ⟨rfl, hm⟩
  go_wp2_with fail
  go_ret
  exact ⟨rfl, hm⟩
set_option maxHeartbeats 400000 in
theorem turn_yes (D : Dk) (w : World) (h : Dsk w D) (h1 : ¬ D.ar = 1) : Calls Try.prog 55 #[.pointer (some ⟨D.d, 0, none⟩)] w fun r w' => r = .returned De.ok.v ∧ Mv w D w' D.turn := by
  have h0 := h.c 0 rfl
  have h2 := h.c 2 rfl
  have f0 := h.f 0 (by omega)
  have f2 := h.f 2 (by omega)
  have ha := h.arm
  have HH := Lib.hid h
  clear h
  go_enter Try.func55, Try.ntmps55
  go_wp2_with fail
  · go_ret
    refine ⟨rfl, ?_⟩
    have m1 := Mv.put (D' := { D with ar := 0 }) HH.out 2 (.int .i64 0) (by omega) rfl (by simp) rfl
    exact m1.trans (Mv.put (D' := D.turn) m1.2.1 0 (.int .i64 (wrap64 (D.tu + 1))) (by omega) (by rw [show D.turn = { D with ar := 0, tu := wrap64 (D.tu + 1) } by unfold Dk.turn; rw [show max (D.ar - 1) 0 = 0 by omega]]; rfl) (by unfold Dk.turn; simp only; omega) rfl)
  · go_ret
    refine ⟨rfl, ?_⟩
    have m1 := Mv.put (D' := { D with ar := D.ar - 1 }) HH.out 2 (.int .i64 (D.ar - 1)) (by omega) rfl (by simp only; omega) rfl
    exact m1.trans (Mv.put (D' := D.turn) m1.2.1 0 (.int .i64 (wrap64 (D.tu + 1))) (by omega) (by rw [show D.turn = { D with ar := D.ar - 1, tu := wrap64 (D.tu + 1) } by unfold Dk.turn; rw [show max (D.ar - 1) 0 = D.ar - 1 by omega]]; rfl) (by unfold Dk.turn; simp only; omega) rfl)
end Go.Proofs.Ytkdphgcbecldbaa
