/- Texts of the proof, one behind the other: TwB, RefJ. -/
import Derived.Test.YtkdphgcbecldbaaJo
/- Both disks side by side in memory: what moves the one leaves the other; the deeds told so. -/
namespace Go.Proofs.Ytkdphgcbecldbaa
open Go.RowKit
structure Tv (w0 : World) (D0 : Dk) (R0 : Rk) (w : World) (D : Dk) (R : Rk) : Prop where
  kp : Kp (fun b => D0.fp b ∨ R0.fp b) w0 w
  d : Dsk w D
  r : Rsk w R
  ap : ∀ b, D.fp b → ¬ R.all b
  df : ∀ b, D.fp b → D0.fp b ∨ w0.heap.size ≤ b
  ra : ∀ b, R.all b → R0.all b ∨ w0.heap.size ≤ b
  rf : ∀ b, R.fp b → R0.fp b ∨ w0.heap.size ≤ b
  ed : D.d = D0.d
  er : R.r = R0.r
section
variable {w0 w w' : World} {D0 D D' : Dk} {R0 R R' : Rk}
theorem Tv.refl (hd : Dsk w D) (hr : Rsk w R) (ha : ∀ b, D.fp b → ¬ R.all b) : Tv w D R w D R := ⟨Kp.refl _ _, hd, hr, ha, fun _ h => .inl h, fun _ h => .inl h, fun _ h => .inl h, rfl, rfl⟩
theorem Tv.gr (h : Tv w0 D0 R0 w D R) (hg : Gr w w') : Tv w0 D0 R0 w' D R := ⟨h.kp.gr hg, h.d.gr hg, h.r.gr hg, h.ap, h.df, h.ra, h.rf, h.ed, h.er⟩
theorem Tv.mv (h : Tv w0 D0 R0 w D R) (m : Mv w D w' D') : Tv w0 D0 R0 w' D' R :=
  ⟨h.kp.trans m.1 (fun b hb => (h.df b hb).imp .inl id), m.2.1, h.r.keep m.1 (fun b hb hd => h.ap b hd hb),
    fun b hb hr => (m.2.2.1 b hb).elim (fun hd => h.ap b hd hr) (fun hs => absurd (h.r.all_lt hr) (by omega)),
    fun b hb => (m.2.2.1 b hb).elim (h.df b) (fun hs => .inr (Nat.le_trans h.kp.size hs)), h.ra, h.rf, m.d.trans h.ed, h.er⟩
theorem Tv.rv (h : Tv w0 D0 R0 w D R) (m : Rv w R w' R') : Tv w0 D0 R0 w' D R' :=
  ⟨h.kp.trans m.kp (fun b hb => (h.rf b hb).imp .inr id), h.d.keep m.kp (fun b hb hr => h.ap b hb (.inl hr)), m.sk,
    fun b hb hr => (m.all b hr).elim (h.ap b hb) (fun hs => absurd (h.d.fp_lt hb) (by omega)), h.df,
    fun b hb => (m.all b hb).elim (h.ra b) (fun hs => .inr (Nat.le_trans h.kp.size hs)),
    fun b hb => (m.fp b hb).elim (h.rf b) (fun hs => .inr (Nat.le_trans h.kp.size hs)), h.ed, m.r.trans h.er⟩
/-- elsewhere -/
theorem Tv.aside {S : Nat → Prop} (h : Tv w0 D0 R0 w D R) (k : Kp S w w') (hs : ∀ b, S b → w0.heap.size ≤ b ∧ ¬ D.fp b ∧ ¬ R.all b) : Tv w0 D0 R0 w' D R :=
  ⟨h.kp.trans k (fun b hb => .inr (hs b hb).1), h.d.keep k (fun b hb h' => (hs b h').2.1 hb), h.r.keep k (fun b hb h' => (hs b h').2.2 hb), h.ap, h.df, h.ra, h.rf, h.ed, h.er⟩
theorem Tv.trans {w2 : World} {D2 : Dk} {R2 : Rk} (h : Tv w0 D0 R0 w D R) (k : Tv w D R w2 D2 R2) : Tv w0 D0 R0 w2 D2 R2 :=
  ⟨h.kp.trans k.kp (fun b hb => hb.elim (fun hd => (h.df b hd).imp .inl id) (fun hr => (h.rf b hr).imp .inr id)), k.d, k.r, k.ap,
    fun b hb => (k.df b hb).elim (h.df b) (fun hs => .inr (Nat.le_trans h.kp.size hs)),
    fun b hb => (k.ra b hb).elim (h.ra b) (fun hs => .inr (Nat.le_trans h.kp.size hs)),
    fun b hb => (k.rf b hb).elim (h.rf b) (fun hs => .inr (Nat.le_trans h.kp.size hs)), k.ed.trans h.ed, k.er.trans h.er⟩
end
/-- both have moved on; what they hold now -/
def Tx (w0 : World) (D0 : Dk) (R0 : Rk) (s t : St) (w : World) : Prop := ∃ D R, Tv w0 D0 R0 w D R ∧ D.s = s ∧ R.s = t
section
variable {w0 w w' : World} {D0 : Dk} {R0 : Rk} {s t : St}
theorem Tx.gr (h : Tx w0 D0 R0 s t w) (hg : Gr w w') : Tx w0 D0 R0 s t w' := by
  obtain ⟨D, R, h1, h2, h3⟩ := h
  exact ⟨D, R, h1.gr hg, h2, h3⟩
theorem Tx.size (h : Tx w0 D0 R0 s t w) : w0.heap.size ≤ w.heap.size := by
  obtain ⟨D, R, h1, h2, h3⟩ := h
  exact h1.kp.size
theorem Tx.kp (h : Tx w0 D0 R0 s t w) : Kp (fun b => D0.fp b ∨ R0.fp b) w0 w := by
  obtain ⟨D, R, h1, h2, h3⟩ := h
  exact h1.kp
/-- the document's deeds -/
theorem r_wr (R : Rk) (n : Int) (A : Option Addr) (len c : Nat) (l : List Nat) (B : Nat) (w : World) (h : Rsk w R) (hb : Bs w B ⟨A, len, c⟩ l) (hB : B ≤ w.heap.size) (hf : 0 < len → ∀ b o, A = some ⟨b, o, none⟩ → ¬ R.fp b) (hws : R.ws.length ≤ 1000000) :
    Calls Try.prog 63 #[.pointer (some ⟨R.r, 0, none⟩), .int .i64 n, .slice A len c] w fun r w' => r = .returned (.int .i64 (R.s.wr n l).1) ∧ ∃ R', Rv w R w' R' ∧ R'.s = (R.s.wr n l).2 := by
  have hlen : len = l.length := hb.1
  cases hd : R.dn with
  | true =>
    refine (rwrite_down R n _ w h hd).mono ?_
    rintro r w' ⟨rfl, rfl⟩
    have e : R.s.wr n l = (11, R.s) := if_pos hd
    rw [e]
    exact ⟨rfl, R, Rv.refl h, rfl⟩
  | false =>
    have e0 : ¬ R.s.dn = true := ndn hd
    by_cases hn : n < 0 ∨ (R.k : Int) ≤ n ∨ 256 < len
    · refine (rwrite_out R n A len c w h hd hn).mono ?_
      rintro r w' ⟨rfl, rfl⟩
      have e : R.s.wr n l = (2, R.s) := by unfold St.wr; rw [if_neg e0, if_pos (by show n < 0 ∨ (R.k : Int) ≤ n ∨ _; omega)]
      rw [e]
      exact ⟨rfl, R, Rv.refl h, rfl⟩
    · have e1 : ¬ (n < 0 ∨ (R.s.k : Int) ≤ n ∨ 256 < l.length) := by show ¬ (n < 0 ∨ (R.k : Int) ≤ n ∨ _); omega
      have ea : R.s.ar = R.ar := by rw [Rk.s_up hd]
      by_cases ha : R.ar = 1
      · refine (rwrite_fall R n A len c w h hd (by omega) (by omega) (by omega) ha).mono ?_
        rintro r w' ⟨rfl, hm⟩
        have e : R.s.wr n l = (11, R.s.fall) := by unfold St.wr; rw [if_neg e0, if_neg e1, if_pos (ea.trans ha)]
        rw [e]
        exact ⟨rfl, _, hm, rfl⟩
      · obtain ⟨m, rfl⟩ : ∃ m : Nat, n = (m : Int) := ⟨n.toNat, by omega⟩
        refine (rwrite_ok R m A len c l B w h hb hB hf hd (by omega) (by omega) ha hws).mono ?_
        rintro r w' ⟨rfl, v, wl, hm⟩
        have e : R.s.wr m l = (0, { R.s.turn with ws := R.s.ws ++ [((m : Int).toNat, pad l)] }) := by unfold St.wr; rw [if_neg e0, if_neg e1, if_neg (by rw [ea]; exact ha)]
        rw [e]
        refine ⟨rfl, _, hm, ?_⟩
        rw [Rk.s_up (R := { R.turn with wv := v, ws := R.ws ++ [(m, pad l)], wl := wl }) hd, Rk.s_up hd]
        rfl
theorem r_sy (R : Rk) (w : World) (h : Rsk w R) (hws : R.ws.length ≤ 1000000) :
    Calls Try.prog 64 #[.pointer (some ⟨R.r, 0, none⟩)] w fun r w' => r = .returned (.int .i64 R.s.sy.1) ∧ ∃ R', Rv w R w' R' ∧ R'.s = R.s.sy.2 := by
  cases hd : R.dn with
  | true =>
    refine (rsync_down R w h hd).mono ?_
    rintro r w' ⟨rfl, rfl⟩
    have e : R.s.sy = (11, R.s) := if_pos hd
    rw [e]
    exact ⟨rfl, R, Rv.refl h, rfl⟩
  | false =>
    have e0 : ¬ R.s.dn = true := ndn hd
    have ea : R.s.ar = R.ar := by rw [Rk.s_up hd]
    by_cases ha : R.ar = 1
    · refine (rsync_fall R w h hd ha).mono ?_
      rintro r w' ⟨rfl, hm⟩
      have e : R.s.sy = (11, R.s.fall) := by unfold St.sy; rw [if_neg e0, if_pos (ea.trans ha)]
      rw [e]
      exact ⟨rfl, _, hm, rfl⟩
    · refine (rsync_ok R w h hd ha hws).mono ?_
      rintro r w' ⟨rfl, vl, hm⟩
      have e : R.s.sy = (0, { R.s.turn with bl := rbl R.s.bl R.s.ws, hu := rhu R.s.hu R.s.ws, ws := [] }) := by unfold St.sy; rw [if_neg e0, if_neg (by rw [ea]; exact ha)]
      rw [e]
      refine ⟨rfl, _, hm, ?_⟩
      rw [Rk.s_up (R := { R.turn.stAll R.ws vl with wv := .slice none 0 0, ws := [], wl := [] }) hd, Rk.s_up hd]
      rfl
theorem r_am (R : Rk) (n : Int) (w : World) (h : Rsk w R) (hn : n ≤ 9223372036854775807) :
    Calls Try.prog 66 #[.pointer (some ⟨R.r, 0, none⟩), .int .i64 n] w fun r w' => r = .returned (.tuple #[]) ∧ ∃ R', Rv w R w' R' ∧ R'.s = R.s.am n := by
  cases hd : R.dn with
  | true =>
    refine (rarm_down R n w h hd).mono ?_
    rintro r w' ⟨rfl, rfl⟩
    have e : R.s.am n = R.s := if_pos hd
    rw [e]
    exact ⟨rfl, R, Rv.refl h, rfl⟩
  | false =>
    refine (rarm_ok R n w h hd hn).mono ?_
    rintro r w' ⟨rfl, hm⟩
    have e : R.s.am n = { R.s with ar := max n 0 } := if_neg (ndn hd)
    rw [e]
    refine ⟨rfl, _, hm, ?_⟩
    rw [Rk.s_up (R := { R with ar := max n 0 }) hd, Rk.s_up hd]
theorem r_cs (R : Rk) (w : World) (h : Rsk w R) :
    Calls Try.prog 67 #[.pointer (some ⟨R.r, 0, none⟩)] w fun r w' => r = .returned (.int .i64 R.s.cs.1) ∧ ∃ R', Rv w R w' R' ∧ R'.s = R.s.cs.2 := by
  cases hd : R.dn with
  | true =>
    refine (rcrash_down R w h hd).mono ?_
    rintro r w' ⟨rfl, rfl⟩
    have e : R.s.cs = (11, R.s) := if_pos hd
    rw [e]
    exact ⟨rfl, R, Rv.refl h, rfl⟩
  | false =>
    refine (rcrash_ok R w h hd).mono ?_
    rintro r w' ⟨rfl, hm⟩
    have e : R.s.cs = (0, R.s.fall) := if_neg (ndn hd)
    rw [e]
    exact ⟨rfl, _, hm, rfl⟩
theorem r_wk (R : Rk) (a b c : Int) (w : World) (h : Rsk w R) (hws : R.ws.length ≤ 1000000) :
    Calls Try.prog 68 #[.pointer (some ⟨R.r, 0, none⟩), .int .i64 a, .int .i64 b, .int .i64 c] w fun r w' => r = .returned (.int .i64 (R.s.wk a b c).1) ∧ ∃ R', Rv w R w' R' ∧ R'.s = (R.s.wk a b c).2 := by
  cases hd : R.dn with
  | true =>
    refine (rwake_ok R a b c w h hd hws).mono ?_
    rintro r w' ⟨rfl, vl, hm⟩
    have e : R.s.wk a b c = (0, { R.s with bl := wkb a b c R.s.bl R.s.ws, hu := wkh a b c R.s.hu R.s.ws, ws := [], ar := 0, dn := false }) := if_pos hd
    rw [e]
    refine ⟨rfl, _, hm, ?_⟩
    rw [Rk.s_up (R := { R.wkAll a b c R.ws vl with wv := .slice none 0 0, ws := [], wl := [], ar := 0, dn := false }) rfl]
    rfl
  | false =>
    refine (rwake_up R a b c w h hd).mono ?_
    rintro r w' ⟨rfl, rfl⟩
    have e : R.s.wk a b c = (16, R.s) := if_neg (ndn hd)
    rw [e]
    exact ⟨rfl, R, Rv.refl h, rfl⟩
variable {d r0 : Nat}
theorem tx_wr (hx : Tx w0 D0 R0 s t w) (n : Int) (A : Option Addr) (len c : Nat) (l : List Nat) (B : Nat) (hd : D0.d = d) (hb : Bs w B ⟨A, len, c⟩ l) (hB : B ≤ w.heap.size) (hf : 0 < len → ∀ b o, A = some ⟨b, o, none⟩ → b < w0.heap.size ∧ ¬ D0.fp b) (hws : s.ws.length ≤ 1000000) :
    Calls Try.prog 26 #[.pointer (some ⟨d, 0, none⟩), .int .i64 n, .slice A len c] w fun r w' => r = .returned (.int .i64 (s.wr n l).1) ∧ Tx w0 D0 R0 (s.wr n l).2 t w' := by
  obtain ⟨D, R, hv, rfl, rfl⟩ := hx
  have h := d_wr D n A len c l B w hv.d hb hB (fun h0 b o e hfp => (hv.df b hfp).elim (hf h0 b o e).2 (fun hs => by have := (hf h0 b o e).1; omega)) hws
  rw [hv.ed.trans hd] at h
  refine h.mono ?_
  rintro r w' ⟨rfl, D', hm, hs⟩
  exact ⟨rfl, D', R, hv.mv hm, hs, rfl⟩
theorem tx_sy (hx : Tx w0 D0 R0 s t w) (hd : D0.d = d) (hws : s.ws.length ≤ 1000000) :
    Calls Try.prog 27 #[.pointer (some ⟨d, 0, none⟩)] w fun r w' => r = .returned (.int .i64 s.sy.1) ∧ Tx w0 D0 R0 s.sy.2 t w' := by
  obtain ⟨D, R, hv, rfl, rfl⟩ := hx
  have h := d_sy D w hv.d hws
  rw [hv.ed.trans hd] at h
  refine h.mono ?_
  rintro r w' ⟨rfl, D', hm, hs⟩
  exact ⟨rfl, D', R, hv.mv hm, hs, rfl⟩
theorem tx_am (hx : Tx w0 D0 R0 s t w) (n : Int) (hd : D0.d = d) (hn : n ≤ 9223372036854775807) :
    Calls Try.prog 65 #[.pointer (some ⟨d, 0, none⟩), .int .i64 n] w fun r w' => r = .returned (.tuple #[]) ∧ Tx w0 D0 R0 (s.am n) t w' := by
  obtain ⟨D, R, hv, rfl, rfl⟩ := hx
  have h := d_am D n w hv.d hn
  rw [hv.ed.trans hd] at h
  refine h.mono ?_
  rintro r w' ⟨rfl, D', hm, hs⟩
  exact ⟨rfl, D', R, hv.mv hm, hs, rfl⟩
theorem tx_cs (hx : Tx w0 D0 R0 s t w) (hd : D0.d = d) :
    Calls Try.prog 30 #[.pointer (some ⟨d, 0, none⟩)] w fun r w' => r = .returned (.int .i64 s.cs.1) ∧ Tx w0 D0 R0 s.cs.2 t w' := by
  obtain ⟨D, R, hv, rfl, rfl⟩ := hx
  have h := d_cs D w hv.d
  rw [hv.ed.trans hd] at h
  refine h.mono ?_
  rintro r w' ⟨rfl, D', hm, hs⟩
  exact ⟨rfl, D', R, hv.mv hm, hs, rfl⟩
theorem tx_wk (hx : Tx w0 D0 R0 s t w) (a b c : Int) (hd : D0.d = d) (hws : s.ws.length ≤ 1000000) :
    Calls Try.prog 31 #[.pointer (some ⟨d, 0, none⟩), .int .i64 a, .int .i64 b, .int .i64 c] w fun r w' => r = .returned (.int .i64 (s.wk a b c).1) ∧ Tx w0 D0 R0 (s.wk a b c).2 t w' := by
  obtain ⟨D, R, hv, rfl, rfl⟩ := hx
  have h := d_wk D a b c w hv.d hws
  rw [hv.ed.trans hd] at h
  refine h.mono ?_
  rintro r w' ⟨rfl, D', hm, hs⟩
  exact ⟨rfl, D', R, hv.mv hm, hs, rfl⟩
theorem tx_ro (hx : Tx w0 D0 R0 s t w) (n bit : Int) (m : Nat) (hd : D0.d = d) (hm : m < 4294967296) :
    Calls Try.prog 35 #[.pointer (some ⟨d, 0, none⟩), .int .i64 n, .int .i64 bit, .int .u32 m] w fun r w' => r = .returned (.int .i64 (s.ro n bit m).1) ∧ Tx w0 D0 R0 (s.ro n bit m).2 t w' := by
  obtain ⟨D, R, hv, rfl, rfl⟩ := hx
  have h := d_ro D n bit m w hv.d hm
  rw [hv.ed.trans hd] at h
  refine h.mono ?_
  rintro r w' ⟨rfl, D', hm, hs⟩
  exact ⟨rfl, D', R, hv.mv hm, hs, rfl⟩
theorem tx_wi (hx : Tx w0 D0 R0 s t w) (n : Int) (hd : D0.d = d) :
    Calls Try.prog 36 #[.pointer (some ⟨d, 0, none⟩), .int .i64 n] w fun r w' => r = .returned (.int .i64 (s.wi n).1) ∧ Tx w0 D0 R0 (s.wi n).2 t w' := by
  obtain ⟨D, R, hv, rfl, rfl⟩ := hx
  have h := d_wi D n w hv.d
  rw [hv.ed.trans hd] at h
  refine h.mono ?_
  rintro r w' ⟨rfl, D', hm, hs⟩
  exact ⟨rfl, D', R, hv.mv hm, hs, rfl⟩
theorem ty_wr (hx : Tx w0 D0 R0 s t w) (n : Int) (A : Option Addr) (len c : Nat) (l : List Nat) (B : Nat) (hr : R0.r = r0) (hb : Bs w B ⟨A, len, c⟩ l) (hB : B ≤ w.heap.size) (hf : 0 < len → ∀ b o, A = some ⟨b, o, none⟩ → b < w0.heap.size ∧ ¬ R0.fp b) (hws : t.ws.length ≤ 1000000) :
    Calls Try.prog 63 #[.pointer (some ⟨r0, 0, none⟩), .int .i64 n, .slice A len c] w fun r w' => r = .returned (.int .i64 (t.wr n l).1) ∧ Tx w0 D0 R0 s (t.wr n l).2 w' := by
  obtain ⟨D, R, hv, rfl, rfl⟩ := hx
  have h := r_wr R n A len c l B w hv.r hb hB (fun h0 b o e hfp => (hv.rf b hfp).elim (hf h0 b o e).2 (fun hs => by have := (hf h0 b o e).1; omega)) hws
  rw [hv.er.trans hr] at h
  refine h.mono ?_
  rintro r w' ⟨rfl, R', hm, hs⟩
  exact ⟨rfl, D, R', hv.rv hm, rfl, hs⟩
theorem ty_sy (hx : Tx w0 D0 R0 s t w) (hr : R0.r = r0) (hws : t.ws.length ≤ 1000000) :
    Calls Try.prog 64 #[.pointer (some ⟨r0, 0, none⟩)] w fun r w' => r = .returned (.int .i64 t.sy.1) ∧ Tx w0 D0 R0 s t.sy.2 w' := by
  obtain ⟨D, R, hv, rfl, rfl⟩ := hx
  have h := r_sy R w hv.r hws
  rw [hv.er.trans hr] at h
  refine h.mono ?_
  rintro r w' ⟨rfl, R', hm, hs⟩
  exact ⟨rfl, D, R', hv.rv hm, rfl, hs⟩
theorem ty_am (hx : Tx w0 D0 R0 s t w) (n : Int) (hr : R0.r = r0) (hn : n ≤ 9223372036854775807) :
    Calls Try.prog 66 #[.pointer (some ⟨r0, 0, none⟩), .int .i64 n] w fun r w' => r = .returned (.tuple #[]) ∧ Tx w0 D0 R0 s (t.am n) w' := by
  obtain ⟨D, R, hv, rfl, rfl⟩ := hx
  have h := r_am R n w hv.r hn
  rw [hv.er.trans hr] at h
  refine h.mono ?_
  rintro r w' ⟨rfl, R', hm, hs⟩
  exact ⟨rfl, D, R', hv.rv hm, rfl, hs⟩
theorem ty_cs (hx : Tx w0 D0 R0 s t w) (hr : R0.r = r0) :
    Calls Try.prog 67 #[.pointer (some ⟨r0, 0, none⟩)] w fun r w' => r = .returned (.int .i64 t.cs.1) ∧ Tx w0 D0 R0 s t.cs.2 w' := by
  obtain ⟨D, R, hv, rfl, rfl⟩ := hx
  have h := r_cs R w hv.r
  rw [hv.er.trans hr] at h
  refine h.mono ?_
  rintro r w' ⟨rfl, R', hm, hs⟩
  exact ⟨rfl, D, R', hv.rv hm, rfl, hs⟩
theorem ty_wk (hx : Tx w0 D0 R0 s t w) (a b c : Int) (hr : R0.r = r0) (hws : t.ws.length ≤ 1000000) :
    Calls Try.prog 68 #[.pointer (some ⟨r0, 0, none⟩), .int .i64 a, .int .i64 b, .int .i64 c] w fun r w' => r = .returned (.int .i64 (t.wk a b c).1) ∧ Tx w0 D0 R0 s (t.wk a b c).2 w' := by
  obtain ⟨D, R, hv, rfl, rfl⟩ := hx
  have h := r_wk R a b c w hv.r hws
  rw [hv.er.trans hr] at h
  refine h.mono ?_
  rintro r w' ⟨rfl, R', hm, hs⟩
  exact ⟨rfl, D, R', hv.rv hm, rfl, hs⟩
end
end Go.Proofs.Ytkdphgcbecldbaa
/- The document's disk: Wipe (70), Rot (69). -/
namespace Go.Proofs.Ytkdphgcbecldbaa
open Go.RowKit
theorem rb_new (w : World) : RB (w.alloc (.cells (bvs (Z 256)).toArray 5)) (.slice (some ⟨w.heap.size, 0, none⟩) 256 256) (Z 256) :=
  ⟨w.heap.size, 256, _, rfl, by omega, by omega, heap_alloc_new w _, by rw [List.toList_toArray, List.take_of_length_le (by rw [bvs_len, Z_len]; exact Nat.le_refl _)], Z_len _, small_zero _⟩
set_option maxRecDepth 100000 in
set_option maxHeartbeats 2000000 in
theorem r_wi (R : Rk) (n : Int) (w : World) (h : Rsk w R) :
    Calls Try.prog 70 #[.pointer (some ⟨R.r, 0, none⟩), .int .i64 n] w fun r w' => r = .returned (.int .i64 (R.s.wi n).1) ∧ ∃ R', Rv w R w' R' ∧ R'.s = (R.s.wi n).2 := by
  have HT := Lib.hid (rthere_any R n w h)
  have HM := Lib.hid (Rv.refl h)
  by_cases hn : 0 ≤ n ∧ n < R.k
  · have HD := Lib.hid (decide_eq_true hn)
    obtain ⟨q, rfl⟩ : ∃ q : Nat, n = (q : Int) := ⟨n.toNat, by omega⟩
    have HE : Hid (R.s.wi q = R.s.be q (Z 256)) := if_neg (by show ¬ ((q : Int) < 0 ∨ (R.k : Int) ≤ q); omega)
    have hmk : ∀ W : World, (Instr.makeSlice 24 (.int .i64 256) (.int .i64 256)).run Try.prog W = .ok (.slice (some ⟨W.heap.size, 0, none⟩) 256 256) (W.alloc (.cells (bvs (Z 256)).toArray 5)) := make24 256 (by decide)
    have HH := Lib.hid (rhurt_any w R R q (.slice (some ⟨w.heap.size, 0, none⟩) 256 256) (Z 256) _ (Rv.gr h (Gr.at_alloc w _)) (by omega) (rb_new w) (fun b hb => Nat.le_of_eq (by simpa [Value.ownBlock] using hb)))
    clear h hn
    go_enter Try.func70, Try.ntmps70
    go_wp2_with fail
    refine HT.out.mono ?_
    rintro e w1 ⟨rfl, rfl⟩
    rw [HD.out]
    go_wp2_with fail
    refine HH.out.mono ?_
    rintro e w2 ⟨rfl, R', hm, hs⟩
    have HM2 := Lib.hid hm
    have HS := Lib.hid hs
    clear hm hs
    go_wp2_with fail
    go_ret
    rw [HE.out]
    exact ⟨rfl, R', HM2.out, HS.out⟩
  · have HD := Lib.hid (decide_eq_false hn)
    have HE : Hid (R.s.wi n = (2, R.s)) := if_pos (by show n < 0 ∨ (R.k : Int) ≤ n; omega)
    clear h hn
    go_enter Try.func70, Try.ntmps70
    go_wp2_with fail
    refine HT.out.mono ?_
    rintro e w1 ⟨rfl, rfl⟩
    rw [HD.out]
    go_wp2_with fail
    go_ret
    rw [HE.out]
    exact ⟨rfl, R, HM.out, rfl⟩
theorem RB.cellj {w : World} {g c : Nat} {l : List Nat} (h : RB w (.slice (some ⟨g, 0, none⟩) 256 c) l) {j : Nat} (hj : j < 256) : w.cell? ⟨g, j, none⟩ = some (.int .u8 ((l.getD j 0 : Nat) : Int)) ∧ w.frozen? ⟨g, j, none⟩ = false ∧ l.getD j 0 < 256 := by
  obtain ⟨g', c', cur, e, h1, h2, h3, h4, h5, h6⟩ := h
  injection e with e _ e2
  injection e with e
  injection e with e
  subst e
  subst e2
  refine ⟨?_, by simp [World.frozen?, h3], h6.at_ _⟩
  rw [cell_of_row _ _ _ _ _ _ h3]
  have hu : (bvs l)[j]? = some (.int .u8 ((l.getD j 0 : Nat) : Int)) := by
    unfold bvs
    rw [List.getElem?_map, List.getElem?_eq_getElem (by omega), List.getD_eq_getElem?_getD, List.getElem?_eq_getElem (by omega)]
    rfl
  rw [← h4, List.getElem?_take, if_pos hj, Array.getElem?_toList] at hu
  exact hu
theorem RB.set {w : World} {g c : Nat} {l : List Nat} (h : RB w (.slice (some ⟨g, 0, none⟩) 256 c) l) (j : Nat) {x : Nat} (hx : x < 256) : RB (w.setCell ⟨g, j, none⟩ (.int .u8 ((x : Nat) : Int))) (.slice (some ⟨g, 0, none⟩) 256 c) (l.set j x) := by
  obtain ⟨g', c', cur, e, h1, h2, h3, h4, h5, h6⟩ := h
  injection e with e _ e2
  injection e with e
  injection e with e
  subst e
  subst e2
  refine ⟨g, c, _, rfl, h1, h2, setCell_at h3 _, ?_, by rw [List.length_set]; exact h5, small_set h6 j hx⟩
  rw [Array.toList_setIfInBounds, List.take_set, h4]
  unfold bvs
  rw [List.map_set]
theorem list_set_same {l : List Nat} (j : Nat) (h : j < l.length) : l.set j (l.getD j 0) = l := by
  rw [List.getD_eq_getElem?_getD, List.getElem?_eq_getElem h]
  exact List.set_getElem_self h
theorem rotF_next (m f : Nat) (cl : List Nat) (hf : f < 2048) (hl : cl.length = 256) : rotF (2048 - f) m f cl = rotF (2048 - (f + 1)) (m / 2) (f + 1) (if m % 2 = 1 then cl.set (f / 8) (cl.getD (f / 8) 0 ^^^ 1 * 2 ^ (f % 8)) else cl) := by
  by_cases h0 : m = 0
  · subst h0
    rw [rotF_done 0 f cl (.inl rfl), if_neg (by decide), rotF_done _ _ cl (.inl rfl)]
  · rw [rotF_go m f cl h0 hf]
    by_cases h1 : m % 2 = 1
    · rw [if_pos h1, h1]
    · have : m % 2 = 0 := by omega
      rw [if_neg h1, this, Nat.zero_mul, Nat.xor_zero, list_set_same _ (by omega)]
set_option maxRecDepth 100000 in
set_option maxHeartbeats 4000000 in
theorem r_ro (R : Rk) (n bit : Int) (m : Nat) (w : World) (h : Rsk w R) (hm : m < 4294967296) :
    Calls Try.prog 69 #[.pointer (some ⟨R.r, 0, none⟩), .int .i64 n, .int .i64 bit, .int .u32 m] w fun r w' => r = .returned (.int .i64 (R.s.ro n bit m).1) ∧ ∃ R', Rv w R w' R' ∧ R'.s = (R.s.ro n bit m).2 := by
  have HT := Lib.hid (rthere_any R n w h)
  have HM := Lib.hid (Rv.refl h)
  by_cases hn : 0 ≤ n ∧ n < R.k
  · have HD := Lib.hid (decide_eq_true hn)
    by_cases hb : bit < 0
    · have HE : Hid (R.s.ro n bit m = (2, R.s)) := if_pos (by show n < 0 ∨ (R.k : Int) ≤ n ∨ _; omega)
      clear h hn
      go_enter Try.func69, Try.ntmps69
      go_wp2_with fail
      refine HT.out.mono ?_
      rintro e w1 ⟨rfl, rfl⟩
      rw [HD.out]
      go_wp2_with fail
      go_ret
      rw [HE.out]
      exact ⟨rfl, R, HM.out, rfl⟩
    · by_cases hb2 : 2048 ≤ bit
      · have HE : Hid (R.s.ro n bit m = (2, R.s)) := if_pos (by show n < 0 ∨ (R.k : Int) ≤ n ∨ _; omega)
        clear h hn
        go_enter Try.func69, Try.ntmps69
        go_wp2_with fail
        refine HT.out.mono ?_
        rintro e w1 ⟨rfl, rfl⟩
        rw [HD.out]
        go_wp2_with fail
        go_ret
        rw [HE.out]
        exact ⟨rfl, R, HM.out, rfl⟩
      · obtain ⟨q, rfl⟩ : ∃ q : Nat, n = (q : Int) := ⟨n.toNat, by omega⟩
        obtain ⟨t, rfl⟩ : ∃ t : Nat, bit = (t : Int) := ⟨bit.toNat, by omega⟩
        have hq : q < R.k := by omega
        have HE : Hid (R.s.ro q t m = R.s.be q (rotB (R.bl q) t m)) := if_neg (by show ¬ ((q : Int) < 0 ∨ (R.k : Int) ≤ q ∨ _); omega)
        have c0 := h.c0
        have cn := (h.cv hq).1
        obtain ⟨g, c, hv, hc1, hc2, hbs⟩ := (h.blk q hq).bs
        rw [hv] at cn
        have hA := h.gr (Gr.at_alloc w (.cells #[] 5))
        have c0a := hA.c0
        have cna := (hA.cv hq).1
        rw [hv] at cna
        have HL : Hid ((bvs (R.bl q)).length = 256) := by show _ = _; rw [bvs_len]; exact hbs.1.symm
        have HNEWS := Lib.hid (fun j u hu => bs_cells (bs_gr hbs (Gr.at_alloc w (.cells #[] 5)) (Nat.le_refl _)) ⟨g, 0, none⟩ rfl j u hu)
        have HOWN := Lib.hid (empty_own w)
        have HSM : Hid (Small (R.bl q)) := hbs.2.1
        have HH := Lib.hid h
        have b1 : (0 : Int) ≤ (q : Int) := by omega
        have b2 : (q : Int) < (R.k : Int) := by omega
        have hb3 : ¬ ((t : Int) < 0) := by omega
        have hb4 : ¬ (2048 ≤ (t : Int)) := by omega
        have ht8 : t < 2048 := by omega
        obtain ⟨i5, hi5, hz5, hs5, hy5⟩ := info_parts info5
        have I5 := Lib.hid (And.intro hi5 (And.intro hz5 (And.intro hs5 hy5)))
        have HMM := Lib.hid hm
        clear hbs hv h hi5 hz5 hs5 hy5 hA hn hb hb2
        go_enter Try.func69, Try.ntmps69
        go_wp2_with fail
        refine HT.out.mono ?_
        rintro e w1 ⟨rfl, rfl⟩
        rw [HD.out]
        go_wp2_with (at_builtin; refine wpList_append_own _ rfl (.tmp 23) (.tmp 31) 24 rfl w1.heap.size 5 i5 (.int .u8 0) 1 1 Try.underlying24 I5.out.1 I5.out.2.1 I5.out.2.2.1 I5.out.2.2.2 rfl (by decide) _ 0 [] rfl HOWN.out ⟨g, 0, none⟩ 256 c (bvs (R.bl q)) rfl ?d0 ?d1 ?d2 ?d3 ?d4 ?d5 ?_)
        case d0 => exact HL.out
        case d1 => exact HNEWS.out
        case d2 => exact bvs_one _
        case d3 => unfold maxLen; omega
        case d4 => omega
        case d5 => rw [World.size_alloc]; omega
        intro v' w3 hown3 hg3 _
        have hcp : Cp w1 w3 v' (R.bl q) := cp_of (by rw [← bvs_len]; exact HL.out) HSM.out hown3 ((Gr.at_alloc w1 _).grown hg3 (by rw [World.size_alloc]; omega) (fun q hq => by cases hq; exact Nat.le_refl _))
        obtain ⟨hgr, hrb, hnew⟩ := hcp
        obtain ⟨g2, c2, rfl, hc3, hc4, _⟩ := hrb.bs
        have hg2 := hnew g2 rfl
        have HRB := Lib.hid hrb
        have HGR := Lib.hid hgr
        have HG2 := Lib.hid hg2
        clear hown3 hg3 hgr hrb hnew hg2 c0a cna c0 cn
        go_wp2_with fail
        go_loopw [10] (fun i wr => ∃ (k : Nat) (cl : List Nat), k ≤ 32 ∧ t + k ≤ 2048 ∧ i = .int .i64 k ∧ Hid (RB wr (.slice (some ⟨g2, 0, none⟩) 256 c2) cl) ∧ Hid (cl.length = 256) ∧ Hid (rotF (2048 - (t + k)) (m / 2 ^ k) (t + k) cl = rotB (R.bl q) t m) ∧ Hid (Gr w1 wr)) (fun i _ => 32 - (intOf i).toNat)
        case atStart => exact ⟨0, R.bl q, by omega, by omega, rfl, HRB.out, by have := HL.out; rw [bvs_len] at this; exact this, by rw [Nat.pow_zero, Nat.div_one]; rfl, HGR.out⟩
        case round =>
          obtain ⟨k, cl, hk, htk, rfl, HR, HL2, HROT, HG⟩ := hrel
          by_cases hgo : k < 32 ∧ t + k < 2048
          · obtain ⟨hk2, htk2⟩ := hgo
            have hnx := rotF_next (m / 2 ^ k) (t + k) cl htk2 HL2.out
            rw [HROT.out, Nat.div_div_eq_div_mul, ← Nat.pow_succ] at hnx
            have hj : (t + k) / 8 < 256 := by omega
            obtain ⟨hc, hf, hx8⟩ := HR.out.cellj hj
            have e1 : ((t : Int) + (k : Int)).tdiv 8 = (((t + k) / 8 : Nat) : Int) := by rw [Int.tdiv_eq_ediv_of_nonneg (by omega)]; omega
            have e2 : ((t : Int) + (k : Int)).tmod 8 = (((t + k) % 8 : Nat) : Int) := by rw [Int.tmod_eq_emod_of_nonneg (by omega)]; omega
            have hmk : m / 2 ^ k < 4294967296 := Nat.lt_of_le_of_lt (Nat.div_le_self _ _) HMM.out
            have e4 : bits .and .u32 ((m : Int) / 2 ^ k) 1 = ((m / 2 ^ k % 2 : Nat) : Int) := by
              rw [show (m : Int) / 2 ^ k = ((m / 2 ^ k : Nat) : Int) by simp]
              exact and1 _ hmk
            have HNX := Lib.hid hnx
            clear hnx hmk
            generalize hM : m / 2 ^ k % 2 = bt at *
            have hb1 : bt < 2 := by omega
            have t1 : (k : Int) < 32 := by omega
            have t2 : (t : Int) + (k : Int) < 2048 := by omega
            by_cases hbt : bt = 1
            · have e5 : ((bt : Int) == 1) = true := by simp [hbt]
              have HBT := Lib.hid hbt
              generalize hx : cl.getD ((t + k) / 8) 0 = x at *
              have HXE := Lib.hid hx
              clear hx
              generalize hJ : (t + k) / 8 = J at *
              generalize hRR : (t + k) % 8 = r at *
              have hR8 : r < 8 := by omega
              have e6 : IntKind.i64.wrap (J : Int) = (J : Int) := IntWalk.i64_in _ (by omega)
              have e7 : IntKind.i64.wrap (r : Int) = (r : Int) := IntWalk.i64_in _ (by omega)
              have b3 : (0 : Int) ≤ (J : Int) := by omega
              have b4 : (J : Int) < 256 := by omega
              have b5 : (0 : Int) ≤ (r : Int) := by omega
              clear hbt
              go_wp2_with fail
              go_region
              all_goals (
                go_wp2_with fail
                have hbl := bt_lt 1 r (by omega) hR8
                have e8 : bits .xor .u8 (x : Int) ((2 : Int) ^ r % 256) = ((x ^^^ 1 * 2 ^ r : Nat) : Int) := by
                  rw [show (2 : Int) ^ r % 256 = ((1 * 2 ^ r : Nat) : Int) by
                    rw [show (2 : Int) ^ r = ((1 * 2 ^ r : Nat) : Int) by simp]; omega, u8_xor_nat _ _ hx8 (by omega)]
                have hy8 : x ^^^ 1 * 2 ^ r < 256 := Nat.xor_lt_two_pow (n := 8) hx8 hbl
                rw [e8]
                exact ⟨⟨k + 1, cl.set J (x ^^^ 1 * 2 ^ r), by omega, by omega, by go_num, HR.out.set J hy8, (List.length_set ..).trans HL2.out, by rw [HNX.out, if_pos HBT.out]; rfl, Below.drew (Below.setCell HG.out HG2.out _)⟩, by simp [intOf]; omega⟩)
            · have e5 : ((bt : Int) == 1) = false := by simp; omega
              have HBT := Lib.hid hbt
              clear hbt
              go_wp2_with fail
              go_roundw
              case rel => exact ⟨k + 1, cl, by omega, by omega, by go_num, HR.out, HL2.out, by rw [HNX.out, if_neg HBT.out]; rfl, HG.out⟩
              case measure => simp [intOf]; omega
          · have hdone : rotF (2048 - (t + k)) (m / 2 ^ k) (t + k) cl = cl := by
              refine rotF_done _ _ _ ?_
              by_cases h : k < 32
              · exact .inr (by omega)
              · refine .inl ?_
                have : k = 32 := by omega
                subst this
                exact Nat.div_eq_of_lt (Nat.lt_of_lt_of_le HMM.out (by decide))
            rw [HROT.out] at hdone
            rw [← hdone] at HR
            have hcl := rhurt_any w1 R R q _ _ wr (Rv.gr HH.out HG.out) hq HR.out (fun b hb => Nat.le_trans HG2.out (Nat.le_of_eq (by simpa [Value.ownBlock] using hb)))
            have HCALL := Lib.hid hcl
            clear hcl hdone
            have htest : ¬ (k : Int) < 32 ∨ ((k : Int) < 32 ∧ ¬ (t : Int) + (k : Int) < 2048) := by omega
            rcases htest with htest | ⟨htest, htest2⟩
            all_goals (
              go_wp2_with fail
              refine HCALL.out.mono ?_
              rintro e w5 ⟨rfl, R', hm5, hs5⟩
              have HM5 := Lib.hid hm5
              have HS5 := Lib.hid hs5
              clear hm5 hs5
              go_wp2_with fail
              go_ret
              rw [HE.out]
              exact ⟨rfl, R', HM5.out, HS5.out⟩)
  · have HD := Lib.hid (decide_eq_false hn)
    have HE : Hid (R.s.ro n bit m = (2, R.s)) := if_pos (by show n < 0 ∨ (R.k : Int) ≤ n ∨ _; omega)
    clear h hn
    go_enter Try.func69, Try.ntmps69
    go_wp2_with fail
    refine HT.out.mono ?_
    rintro e w1 ⟨rfl, rfl⟩
    rw [HD.out]
    go_wp2_with fail
    go_ret
    rw [HE.out]
    exact ⟨rfl, R, HM.out, rfl⟩
end Go.Proofs.Ytkdphgcbecldbaa
