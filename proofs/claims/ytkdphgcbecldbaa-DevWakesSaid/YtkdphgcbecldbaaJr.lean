/- Texts of the proof, one behind the other: DoesB, DoesC, Same, DoesW. -/
import Derived.Test.YtkdphgcbecldbaaJq
import Derived.Test.YtkdphgcbecldbaaJd
import Derived.Deep.RegionHeld3
import Derived.Test.YtkdphgcbecldbaaJn
/- The law's does (38): Read, Write. -/
namespace Go.Proofs.Ytkdphgcbecldbaa
open Go.RowKit
set_option maxRecDepth 100000 in
set_option maxHeartbeats 2000000 in
theorem does_rd (w : World) (D : Dk) (R : Rk) (s : St) (x : Deed) (h : Both w D R s) (hws : s.ws.length ≤ 1000) (hp : pick x.what 9 = 0) :
    Calls Try.prog 38 #[.pointer (some ⟨D.d, 0, none⟩), .pointer (some ⟨R.r, 0, none⟩), .agg x.cs.toArray] w fun r w' => r = .returned (.bool true) ∧ Done w D R s w' := by
  have HX := Lib.hid (h.box x)
  have HH := Lib.hid h
  have hb := h.inBox x HX.out
  obtain ⟨y0, y1, y2, y3, y4, y5⟩ := hb
  have HPK : Hid (∀ W, Calls Try.prog 21 #[.int .i64 x.what, .int .i64 9] W fun e' w' => e' = .returned (.int .i64 (pick x.what 9)) ∧ W = w') := fun W => pick_any x.what 9 _ (by omega)
  rw [hp] at HPK
  have hcc : ((s.rd x.n).2 == (s.rd x.n).2) = true := by simp
  clear h hp
  unfold boxed at HX y0 y1 y2 y3 y4 y5
  go_enter Try.func38, Try.ntmps38
  go_wp2_with fail
  refine (HPK.out _).mono ?_
  rintro e w1 ⟨rfl, rfl⟩
  go_wp2_with fail
  refine (tx_rd HX.out x.n rfl (by omega)).mono ?_
  rintro e w2 ⟨v1, rfl, hg2, hv1, hnew⟩
  have HX2 := Lib.hid (HX.out.gr hg2)
  have z1 := (HH.out.inBox x HX2.out).2.1
  have HV1 := Lib.hid hv1
  have HNEW := Lib.hid hnew
  have HG2 := Lib.hid hg2
  clear hg2 hv1 hnew
  go_wp2_with fail
  refine (ty_rd HX2.out x.n rfl (by omega)).mono ?_
  rintro e w3 ⟨v2, rfl, hg3, hv2⟩
  have HV2 := Lib.hid hv2
  have HV3 := Lib.hid (HV1.out.gr hg3)
  have HG3 := Lib.hid (HG2.out.trans (hg3.mono HG2.out.size))
  clear hg3 hv2
  go_wp2_with fail
  refine (same_dr HV3.out HV2.out).mono ?_
  rintro e w4 ⟨rfl, hg4⟩
  have HV4 := Lib.hid (HV3.out.gr hg4)
  have HG4 := Lib.hid (HG3.out.trans (hg4.mono HG3.out.size))
  clear hg4
  go_wp2_with fail
  refine (over_dv HV4.out).mono ?_
  rintro e w5 ⟨rfl, hk5⟩
  have HX5 := Lib.hid (HX.out.over HG4.out hk5 (fun b hb => HNEW.out b hb))
  clear hk5
  go_wp2_with fail
  go_ret
  exact ⟨rfl, _, HH.out.unbox x HX5.out, Nat.le_succ _, rfl⟩
theorem Both.gr {w w' : World} {D : Dk} {R : Rk} {s : St} (h : Both w D R s) (hg : Gr w w') : Both w' D R s := ⟨h.d.gr hg, h.r.gr hg, h.ap, h.ds, h.rs⟩
theorem Both.tx {w : World} {D : Dk} {R : Rk} {s : St} (h : Both w D R s) : Tx w D R s s w := ⟨D, R, Tv.refl h.d h.r h.ap, h.ds, h.rs⟩
theorem InBox.keep {S : Nat → Prop} {w w' : World} {b : Nat} {x : Deed} (h : InBox w b x) (hk : Kp S w w') (hb : b < w.heap.size) (hS : ¬ S b) : InBox w' b x :=
  ⟨(hk.cell (p := ⟨b, 0, none⟩) hb hS).trans h.1, (hk.cell (p := ⟨b, 1, none⟩) hb hS).trans h.2.1, (hk.cell (p := ⟨b, 2, none⟩) hb hS).trans h.2.2.1, (hk.cell (p := ⟨b, 3, none⟩) hb hS).trans h.2.2.2.1, (hk.cell (p := ⟨b, 4, none⟩) hb hS).trans h.2.2.2.2.1, (hk.cell (p := ⟨b, 5, none⟩) hb hS).trans h.2.2.2.2.2⟩
/-- bytes that were lent are written over -/
theorem Tx.lent {w W w3 w4 : World} {D0 : Dk} {R0 : Rk} {s0 s t : St} {g : Nat} (h : Tx W D0 R0 s t w3) (hb : Both w D0 R0 s0) (hg : Gr w W) (k : Kp (fun b => b = g) w3 w4) (h1 : w.heap.size ≤ g) (h2 : g < W.heap.size) : Tx w D0 R0 s t w4 := by
  obtain ⟨D, R, hv, hs, ht⟩ := h
  have hv' := ((Tv.refl hb.d hb.r hb.ap).gr hg).trans hv
  refine ⟨D, R, hv'.aside k ?_, hs, ht⟩
  rintro b rfl
  refine ⟨h1, fun hf => ?_, fun hf => ?_⟩
  · rcases hv.df _ hf with h | h
    · have := hb.d.fp_lt h; omega
    · omega
  · rcases hv.ra _ hf with h | h
    · have := hb.r.all_lt h; omega
    · omega
theorem Tx.below {w W : World} {D0 : Dk} {R0 : Rk} {s t : St} {B : Nat} (h : Tx w D0 R0 s t W) (hB : B ≤ w.heap.size) (h1 : ∀ b, D0.fp b → B ≤ b) (h2 : ∀ b, R0.fp b → B ≤ b) : Below B w W := h.kp.below (fun i hi => hi.elim (h1 i) (h2 i)) hB
theorem bs_lent {w : World} {g : Nat} {l : List Nat} (hg : w.heap[g]? = some (.cells (bvs (l ++ marks)).toArray 5 (0, 0))) (hs : Small l) (hl : l.length ≤ 1000000) : Bs w w.heap.size ⟨some ⟨g, 0, none⟩, l.length, l.length + 12⟩ l := by
  refine ⟨rfl, hs, by simp only; omega, by simp only; omega, fun _ => ⟨g, 0, rfl, lt_of_heap hg, fun i hi => ?_⟩⟩
  simp only at hi
  rw [Nat.zero_add, cell_of_row _ _ _ _ _ _ hg, List.getElem?_toArray]
  unfold bvs bv
  rw [List.getElem?_map, List.getElem?_append_left hi, List.getElem?_eq_getElem hi, List.getD_eq_getElem?_getD, List.getElem?_eq_getElem hi]
  rfl
set_option maxRecDepth 100000 in
set_option maxHeartbeats 4000000 in
theorem does_wr (w : World) (D : Dk) (R : Rk) (s : St) (x : Deed) (B : Nat) (h : Both w D R s) (hws : s.ws.length ≤ 1000) (hp : pick x.what 9 = 1 ∨ pick x.what 9 = 2) (hok : DeedOk w B x) (hB : B ≤ w.heap.size) (h1 : ∀ b, D.fp b → B ≤ b) (h2 : ∀ b, R.fp b → B ≤ b) (hl : x.b.length ≤ 100000) (h0 : x.s.a = none → x.s.c = 0) :
    Calls Try.prog 38 #[.pointer (some ⟨D.d, 0, none⟩), .pointer (some ⟨R.r, 0, none⟩), .agg x.cs.toArray] w fun r w' => r = .returned (.bool true) ∧ Done w D R s w' := by
  have HX := Lib.hid (h.box x)
  have HH := Lib.hid h
  have hb := h.inBox x HX.out
  have HBX := Lib.hid hb
  obtain ⟨y0, y1, y2, y3, y4, y5⟩ := hb
  have HPK : Hid (∀ W, Calls Try.prog 21 #[.int .i64 x.what, .int .i64 9] W fun e' w' => e' = .returned (.int .i64 (pick x.what 9)) ∧ W = w') := fun W => pick_any x.what 9 _ (by omega)
  have hcc : ∀ l, ((s.wr x.n l).1 == (s.wr x.n l).1) = true := fun l => by simp
  have HG0 : Hid (Gr w (w.alloc (boxed x))) := Gr.at_alloc w _
  have HOK := Lib.hid hok
  have HB := Lib.hid hB
  have H1 := Lib.hid h1
  have H2 := Lib.hid h2
  have HL := Lib.hid hl
  have H0 := Lib.hid h0
  have hlen : x.s.n = x.b.length := hok.bs.1
  have HBS : Hid (Bs (w.alloc (boxed x)) B ⟨x.s.a, x.s.n, x.s.c⟩ x.b) := hok.bs.below HG0.out HB.out
  have HLT : Hid (w.heap.size < (w.alloc (boxed x)).heap.size) := by show _ < _; rw [World.size_alloc]; omega
  have HLEN := Lib.hid hlen
  clear h hok hB h1 h2 hl h0 hlen
  rcases hp with hp | hp
  all_goals (
    rw [hp] at HPK
    clear hp
    unfold boxed at HX y0 y1 y2 y3 y4 y5 HBX HG0 HBS HLT
    go_enter Try.func38, Try.ntmps38
    go_wp2_with fail
    refine (HPK.out _).mono ?_
    rintro e w1 ⟨rfl, rfl⟩
    go_wp2_with fail
    refine (lent_any x.s.a x.s.n x.s.c B x.b _ HBS.out (Nat.le_trans HB.out HG0.out.size) H0.out (by rw [HLEN.out]; have := HL.out; omega)).mono ?_
    rintro e w2 ⟨g, rfl, hg, hblk, hgr⟩
    have hgr' : Gr (w.alloc (.cells x.cs.toArray 47)) w2 := hgr
    have HG2 := Lib.hid (HG0.out.trans (hgr'.mono HG0.out.size))
    have HBX2 := Lib.hid (HBX.out.keep (Kp.of_gr (S := fun _ => False) hgr') HLT.out (fun hf => hf))
    have HTX := Lib.hid (HH.out.gr HG2.out).tx
    have HBL := Lib.hid (bs_lent hblk HOK.out.bs.2.1 (by have := HL.out; omega))
    rw [← HLEN.out] at HBL
    have HBLK := Lib.hid hblk
    have HGE := Lib.hid (Nat.le_trans HG0.out.size hg)
    have HLT2 := Lib.hid (Nat.lt_of_lt_of_le HLT.out hgr'.size)
    have HGL := Lib.hid (lt_of_heap hblk)
    have HGS := Lib.hid hg
    have z1 := HBX2.out.2.1
    have HND : Hid (¬ D.fp w.heap.size ∧ ¬ R.fp w.heap.size ∧ ¬ D.fp g ∧ ¬ R.fp g) := ⟨fun hf => by have := HH.out.d.fp_lt hf; omega, fun hf => by have := HH.out.r.all_lt (.inl hf); omega, fun hf => by have := HH.out.d.fp_lt hf; have := HGE.out; omega, fun hf => by have := HH.out.r.all_lt (.inl hf); have := HGE.out; omega⟩
    clear hg hblk hgr hgr'
    go_wp2_with fail
    refine (tx_wr HTX.out x.n (some ⟨g, 0, none⟩) x.s.n (x.s.n + 12) x.b w2.heap.size rfl HBL.out (Nat.le_refl _) (fun _ b o e => by cases e; exact ⟨HGL.out, HND.out.2.2.1⟩) (by omega)).mono ?_
    rintro e w3 ⟨rfl, hx3⟩
    have HX3 := Lib.hid hx3
    have HBX3 := Lib.hid (HBX2.out.keep hx3.kp HLT2.out (fun hf => hf.elim HND.out.1 HND.out.2.1))
    have z2 := HBX3.out.2.2.1
    have HBS3 : Hid (Bs w3 B ⟨x.s.a, x.s.n, x.s.c⟩ x.b) := (HOK.out.bs.below HG2.out HB.out).below (hx3.below (Nat.le_trans HB.out HG2.out.size) H1.out H2.out) (Nat.le_refl _)
    have HBLK3 : Hid (Blk w3 g 5 (bvs (x.b ++ marks)).toArray) := (hx3.kp.block g HGL.out (fun hf => hf.elim HND.out.2.2.1 HND.out.2.2.2)).trans HBLK.out
    clear hx3
    go_wp2_with fail
    refine (kept_any x.s.a g x.s.n x.s.c B x.b w3 HBS3.out HBLK3.out (by rw [HLEN.out]; have := HL.out; omega)).mono ?_
    rintro e w4 ⟨rfl, m, rfl⟩
    go_wp2_with fail
    refine (over_blk g x.s.n (x.s.n + 12) _ 5 (w3.drewN m) HBLK3.out (by rw [List.size_toArray, bvs_len, List.length_append, HLEN.out]; exact Nat.le_of_eq rfl) (by omega) (by omega) (by rw [HLEN.out]; have := HL.out; omega) (Nat.le_refl _)).mono ?_
    rintro e w5 ⟨rfl, hk5⟩
    have HBX5 := Lib.hid ((HBX3.out.keep (Kp.of_gr (S := fun _ => False) (gr_drewN m)) (Nat.lt_of_lt_of_le HLT2.out HX3.out.size) (fun hf => hf)).keep hk5 (Nat.lt_of_lt_of_le HLT2.out HX3.out.size) (fun (hf : w.heap.size = g) => by have := HGS.out; have := HLT.out; omega))
    have HX5 := Lib.hid ((HX3.out.gr (gr_drewN m)).lent HH.out HG2.out hk5 HGE.out HGL.out)
    have z3 := HBX5.out.2.1
    have z4 := HBX5.out.2.2.1
    have HBS5 : Hid (Bs w5 B ⟨x.s.a, x.s.n, x.s.c⟩ x.b) := HOK.out.bs.below (HX5.out.below HB.out H1.out H2.out) (Nat.le_refl _)
    have HL5 : Hid (B ≤ w5.heap.size) := Nat.le_trans HB.out HX5.out.size
    clear hk5
    go_wp2_with fail
    refine (ty_wr HX5.out x.n x.s.a x.s.n x.s.c x.b B rfl HBS5.out HL5.out (fun hp b o e => by
      obtain ⟨b', o', e', hb', _⟩ := HOK.out.bs.at_ hp
      rw [e] at e'
      cases e'
      exact ⟨Nat.lt_of_lt_of_le hb' HB.out, fun hf => by have := H2.out _ hf; omega⟩) (by omega)).mono ?_
    rintro e w6 ⟨rfl, hx6⟩
    have HX6 := Lib.hid hx6
    clear hx6
    go_wp2_with fail
    go_ret
    exact ⟨by simp, _, HX6.out, wr_less s x.n x.b⟩)
end Go.Proofs.Ytkdphgcbecldbaa
/- The law's does (38): Wake, Rot, Wipe. -/
namespace Go.Proofs.Ytkdphgcbecldbaa
open Go.RowKit
set_option maxRecDepth 100000 in
set_option maxHeartbeats 4000000 in
theorem does_wk (w : World) (D : Dk) (R : Rk) (s : St) (x : Deed) (h : Both w D R s) (hws : s.ws.length ≤ 1000) (hp : pick x.what 9 = 6) :
    Calls Try.prog 38 #[.pointer (some ⟨D.d, 0, none⟩), .pointer (some ⟨R.r, 0, none⟩), .agg x.cs.toArray] w fun r w' => r = .returned (.bool true) ∧ Done w D R s w' := by
  have HX := Lib.hid (h.box x)
  have HH := Lib.hid h
  have hb := h.inBox x HX.out
  obtain ⟨y0, y1, y2, y3, y4, y5⟩ := hb
  have HPK : Hid (∀ W, Calls Try.prog 21 #[.int .i64 x.what, .int .i64 9] W fun e' w' => e' = .returned (.int .i64 (pick x.what 9)) ∧ W = w') := fun W => pick_any x.what 9 _ (by omega)
  rw [hp] at HPK
  have HWS : Hid (s.ws.length ≤ 1000000) := by show _ ≤ _; omega
  clear h hp hws
  unfold boxed at HX y0 y1 y2 y3 y4 y5
  go_enter Try.func38, Try.ntmps38
  go_wp2_with fail
  refine (HPK.out _).mono ?_
  rintro e w1 ⟨rfl, rfl⟩
  go_wp2_with fail
  go_region_held3 (fun w' => w'.cell? ⟨w.heap.size, 1, none⟩ = some (.int .i64 x.n) ∧ w'.cell? ⟨w.heap.size, 3, none⟩ = some (.int .i64 x.torn) ∧ w'.cell? ⟨w.heap.size, 4, none⟩ = some (.int .i64 x.part))
    (first | assumption | exact ⟨y1, y3, y4⟩ | exact ⟨hbA.2.1, hbA.2.2.2.1, hbA.2.2.2.2.1⟩ | exact ⟨hbB.2.1, hbB.2.2.2.1, hbB.2.2.2.2.1⟩)
    (first
      | (go_at_call 31; (with_reducible refine (tx_wk (HX.out.gr (Gr.drew _)) x.n x.torn x.part rfl HWS.out).mono ?_); rintro e' wA ⟨rfl, hxA⟩; have hbA := HH.out.inBox x hxA)
      | (go_at_call 31; (with_reducible refine (tx_wk hxB x.n x.torn x.part rfl HWS.out).mono ?_); rintro e' wA ⟨rfl, hxA⟩; have hbA := HH.out.inBox x hxA)
      | (go_at_call 68; (with_reducible refine (ty_wk (HX.out.gr (Gr.drew _)) x.n x.torn x.part rfl HWS.out).mono ?_); rintro e' wB ⟨rfl, hxB⟩; have hbB := HH.out.inBox x hxB)
      | (go_at_call 68; (with_reducible refine (ty_wk hxA x.n x.torn x.part rfl HWS.out).mono ?_); rintro e' wB ⟨rfl, hxB⟩; have hbB := HH.out.inBox x hxB)
      | fail "no arm")
  all_goals (
    go_wp2_with fail
    go_ret
    exact ⟨by simp, (s.wk x.n x.torn x.part).2, HH.out.unbox x (by first | exact hxB | exact hxA), wk_less s x.n x.torn x.part⟩)
set_option maxRecDepth 100000 in
set_option maxHeartbeats 4000000 in
theorem does_ro (w : World) (D : Dk) (R : Rk) (s : St) (x : Deed) (h : Both w D R s) (hp : pick x.what 9 = 7) (hm : x.mask < 4294967296) :
    Calls Try.prog 38 #[.pointer (some ⟨D.d, 0, none⟩), .pointer (some ⟨R.r, 0, none⟩), .agg x.cs.toArray] w fun r w' => r = .returned (.bool true) ∧ Done w D R s w' := by
  have HX := Lib.hid (h.box x)
  have HH := Lib.hid h
  have hb := h.inBox x HX.out
  obtain ⟨y0, y1, y2, y3, y4, y5⟩ := hb
  have HPK : Hid (∀ W, Calls Try.prog 21 #[.int .i64 x.what, .int .i64 9] W fun e' w' => e' = .returned (.int .i64 (pick x.what 9)) ∧ W = w') := fun W => pick_any x.what 9 _ (by omega)
  rw [hp] at HPK
  have HM := Lib.hid hm
  clear h hp hm
  unfold boxed at HX y0 y1 y2 y3 y4 y5
  go_enter Try.func38, Try.ntmps38
  go_wp2_with fail
  refine (HPK.out _).mono ?_
  rintro e w1 ⟨rfl, rfl⟩
  go_wp2_with fail
  go_region_held3 (fun w' => w'.cell? ⟨w.heap.size, 1, none⟩ = some (.int .i64 x.n) ∧ w'.cell? ⟨w.heap.size, 3, none⟩ = some (.int .i64 x.torn) ∧ w'.cell? ⟨w.heap.size, 5, none⟩ = some (.int .u32 x.mask))
    (first | assumption | exact ⟨y1, y3, y5⟩ | exact ⟨hbA.2.1, hbA.2.2.2.1, hbA.2.2.2.2.2⟩ | exact ⟨hbB.2.1, hbB.2.2.2.1, hbB.2.2.2.2.2⟩)
    (first
      | (go_at_call 35; (with_reducible refine (tx_ro (HX.out.gr (Gr.drew _)) x.n x.torn x.mask rfl HM.out).mono ?_); rintro e' wA ⟨rfl, hxA⟩; have hbA := HH.out.inBox x hxA)
      | (go_at_call 35; (with_reducible refine (tx_ro hxB x.n x.torn x.mask rfl HM.out).mono ?_); rintro e' wA ⟨rfl, hxA⟩; have hbA := HH.out.inBox x hxA)
      | (go_at_call 69; (with_reducible refine (ty_ro (HX.out.gr (Gr.drew _)) x.n x.torn x.mask rfl HM.out).mono ?_); rintro e' wB ⟨rfl, hxB⟩; have hbB := HH.out.inBox x hxB)
      | (go_at_call 69; (with_reducible refine (ty_ro hxA x.n x.torn x.mask rfl HM.out).mono ?_); rintro e' wB ⟨rfl, hxB⟩; have hbB := HH.out.inBox x hxB)
      | fail "no arm")
  all_goals (
    go_wp2_with fail
    go_ret
    exact ⟨by simp, (s.ro x.n x.torn x.mask).2, HH.out.unbox x (by first | exact hxB | exact hxA), ro_less s x.n x.torn x.mask⟩)
set_option maxRecDepth 100000 in
set_option maxHeartbeats 4000000 in
theorem does_wi (w : World) (D : Dk) (R : Rk) (s : St) (x : Deed) (h : Both w D R s) (hp : pick x.what 9 = 8) :
    Calls Try.prog 38 #[.pointer (some ⟨D.d, 0, none⟩), .pointer (some ⟨R.r, 0, none⟩), .agg x.cs.toArray] w fun r w' => r = .returned (.bool true) ∧ Done w D R s w' := by
  have HX := Lib.hid (h.box x)
  have HH := Lib.hid h
  have hb := h.inBox x HX.out
  obtain ⟨y0, y1, y2, y3, y4, y5⟩ := hb
  have HPK : Hid (∀ W, Calls Try.prog 21 #[.int .i64 x.what, .int .i64 9] W fun e' w' => e' = .returned (.int .i64 (pick x.what 9)) ∧ W = w') := fun W => pick_any x.what 9 _ (by omega)
  rw [hp] at HPK
  clear h hp
  unfold boxed at HX y0 y1 y2 y3 y4 y5
  go_enter Try.func38, Try.ntmps38
  go_wp2_with fail
  refine (HPK.out _).mono ?_
  rintro e w1 ⟨rfl, rfl⟩
  go_wp2_with fail
  go_region_held3 (fun w' => w'.cell? ⟨w.heap.size, 1, none⟩ = some (.int .i64 x.n))
    (first | assumption | exact y1 | exact hbA.2.1 | exact hbB.2.1)
    (first
      | (go_at_call 36; (with_reducible refine (tx_wi (HX.out.gr (Gr.drew _)) x.n rfl).mono ?_); rintro e' wA ⟨rfl, hxA⟩; have hbA := HH.out.inBox x hxA)
      | (go_at_call 36; (with_reducible refine (tx_wi hxB x.n rfl).mono ?_); rintro e' wA ⟨rfl, hxA⟩; have hbA := HH.out.inBox x hxA)
      | (go_at_call 70; (with_reducible refine (ty_wi (HX.out.gr (Gr.drew _)) x.n rfl).mono ?_); rintro e' wB ⟨rfl, hxB⟩; have hbB := HH.out.inBox x hxB)
      | (go_at_call 70; (with_reducible refine (ty_wi hxA x.n rfl).mono ?_); rintro e' wB ⟨rfl, hxB⟩; have hbB := HH.out.inBox x hxB)
      | fail "no arm")
  all_goals (
    go_wp2_with fail
    go_ret
    exact ⟨by simp, (s.wi x.n).2, HH.out.unbox x (by first | exact hxB | exact hxA), wi_less s x.n⟩)
theorem pick_nine (n : Int) : pick n 9 = 0 ∨ (pick n 9 = 1 ∨ pick n 9 = 2) ∨ pick n 9 = 3 ∨ pick n 9 = 4 ∨ pick n 9 = 5 ∨ pick n 9 = 6 ∨ pick n 9 = 7 ∨ pick n 9 = 8 := by
  have h : pick n 9 = n % 9 := if_neg (by omega)
  rw [h]
  omega
/-- a deed is the same of both -/
theorem does_any (w : World) (D : Dk) (R : Rk) (s : St) (x : Deed) (B : Nat) (h : Both w D R s) (hws : s.ws.length ≤ 1000) (hok : DeedOk w B x) (hB : B ≤ w.heap.size) (h1 : ∀ b, D.fp b → B ≤ b) (h2 : ∀ b, R.fp b → B ≤ b) (hl : x.b.length ≤ 100000) (h0 : x.s.a = none → x.s.c = 0) :
    Calls Try.prog 38 #[.pointer (some ⟨D.d, 0, none⟩), .pointer (some ⟨R.r, 0, none⟩), .agg x.cs.toArray] w fun r w' => r = .returned (.bool true) ∧ Done w D R s w' := by
  rcases pick_nine x.what with hp | hp | hp | hp | hp | hp | hp | hp
  · exact does_rd w D R s x h hws hp
  · exact does_wr w D R s x B h hws hp hok hB h1 h2 hl h0
  · exact does_sy w D R s x h hws hp
  · exact does_am w D R s x h hok.n.2 hp
  · exact does_cs w D R s x h hp
  · exact does_wk w D R s x h hws hp
  · exact does_ro w D R s x h hp hok.mask
  · exact does_wi w D R s x h hp
end Go.Proofs.Ytkdphgcbecldbaa
/- The law's same (39): both tell the same. -/
namespace Go.Proofs.Ytkdphgcbecldbaa
open Go.RowKit
theorem Tx.len {w W : World} {D : Dk} {R : Rk} {s t : St} (h : Tx w D R s t W) : ∃ cb cc, W.cell? ⟨R.r, 0, none⟩ = some (.slice (some ⟨cb, 0, none⟩) t.k cc) := by
  obtain ⟨D', R', hv, _, ht⟩ := h
  have := hv.r.c0
  rw [hv.er] at this
  exact ⟨R'.cb, R'.cc, by rw [← ht]; exact this⟩
theorem Tx.row {w W : World} {D : Dk} {R : Rk} {s t : St} (h : Tx w D R s t W) : ∃ A cap, W.cell? ⟨R.r, 1, none⟩ = some (.slice A t.ws.length cap) ∧ W.cell? ⟨R.r, 3, none⟩ = some (.int .i64 t.tu) ∧ W.cell? ⟨R.r, 4, none⟩ = some (.int .i64 t.cr) ∧ W.cell? ⟨R.r, 5, none⟩ = some (.bool t.dn) := by
  obtain ⟨D', R', hv, _, ht⟩ := h
  have h1 := hv.r.c1
  have h3 := hv.r.c3
  have h4 := hv.r.c4
  have h5 := hv.r.c5
  obtain ⟨A, cap, hw⟩ := hv.r.wvs
  rw [hw] at h1
  rw [hv.er] at h1 h3 h4 h5
  subst ht
  exact ⟨A, cap, h1, h3, h4, h5⟩
theorem Tx.kle {w W : World} {D : Dk} {R : Rk} {s t : St} (h : Tx w D R s t W) : t.k ≤ 4096 := by
  obtain ⟨D', R', hv, _, ht⟩ := h
  rw [← ht]
  exact hv.r.kle
theorem gr_dt {w w' : World} (h : Gr w.drew w') : Gr w w' := (Gr.drew w).trans (h.mono (Gr.drew w).size)
theorem gr_ad (w : World) (o : Obj) : Gr w (w.alloc o).drew := Below.drew (Gr.at_alloc w o)
set_option maxRecDepth 100000 in
set_option maxHeartbeats 4000000 in
theorem same_ok (w : World) (D : Dk) (R : Rk) (s : St) (h : Both w D R s) (hws : s.ws.length ≤ 1000) :
    Calls Try.prog 39 #[.pointer (some ⟨D.d, 0, none⟩), .pointer (some ⟨R.r, 0, none⟩)] w fun r w' => r = .returned (.bool true) ∧ Tx w D R s s w' := by
  have HX := Lib.hid h.tx
  obtain ⟨cb, cc, c0⟩ := HX.out.len
  obtain ⟨A, cap, c1, c3, c4, c5⟩ := HX.out.row
  have HH := Lib.hid h
  have HWS : Hid (s.ws.length ≤ 1000000) := by show _ ≤ _; omega
  have HHU := Lib.hid (ty_hu HX.out rfl)
  have hk := HX.out.kle
  have HROW : Hid (∀ W, Gr w W → W.cell? ⟨R.r, 0, none⟩ = some (.slice (some ⟨cb, 0, none⟩) s.k cc) ∧ W.cell? ⟨R.r, 1, none⟩ = some (.slice A s.ws.length cap) ∧ W.cell? ⟨R.r, 3, none⟩ = some (.int .i64 s.tu) ∧ W.cell? ⟨R.r, 4, none⟩ = some (.int .i64 s.cr) ∧ W.cell? ⟨R.r, 5, none⟩ = some (.bool s.dn)) := fun W hg => ⟨cell_gr hg c0, cell_gr hg c1, cell_gr hg c3, cell_gr hg c4, cell_gr hg c5⟩
  clear h hws
  go_enter Try.func39, Try.ntmps39
  go_wp2_with fail
  go_cut [5] from 12 to 36 (fun p wx => p = .pointer (some ⟨w.heap.size, 0, none⟩) ∧ wx = (w.alloc (.cells #[.int .i64 s.k, .int .i64 s.ws.length, .int .i64 s.hurts, .int .i64 s.tu, .int .i64 s.cr, .bool s.dn] 50)).drew)
  case first =>
   go_region_held3 (fun w' => w'.cell? ⟨R.r, 0, none⟩ = some (.slice (some ⟨cb, 0, none⟩) s.k cc) ∧ w'.cell? ⟨R.r, 1, none⟩ = some (.slice A s.ws.length cap) ∧ w'.cell? ⟨R.r, 3, none⟩ = some (.int .i64 s.tu) ∧ w'.cell? ⟨R.r, 4, none⟩ = some (.int .i64 s.cr) ∧ w'.cell? ⟨R.r, 5, none⟩ = some (.bool s.dn))
    (first | assumption | exact HROW.out _ (by first | exact Gr.drew _ | exact gr_ad w _ | exact Gr.at_alloc w _ | exact Below.refl _ _))
    (first
      | (go_at_call 71; (with_reducible refine (ty_hu (HX.out.gr (by first | exact Gr.drew _ | exact gr_ad w _)) rfl).mono ?_); rintro e' wA ⟨rfl, rfl⟩)
      | fail "no arm")
   all_goals (
    go_wp2_with fail
    go_meet
    exact ⟨rfl, rfl⟩)
  case rest =>
    obtain ⟨rfl, rfl⟩ := hcut
    have HG1 : Hid (Gr w (w.alloc (.cells #[.int .i64 s.k, .int .i64 s.ws.length, .int .i64 s.hurts, .int .i64 s.tu, .int .i64 s.cr, .bool s.dn] 50)).drew) := gr_ad w _
    have HCL : Hid ((w.alloc (.cells #[.int .i64 s.k, .int .i64 s.ws.length, .int .i64 s.hurts, .int .i64 s.tu, .int .i64 s.cr, .bool s.dn] 50)).drew.heap[w.heap.size]? = some (.cells #[.int .i64 s.k, .int .i64 s.ws.length, .int .i64 s.hurts, .int .i64 s.tu, .int .i64 s.cr, .bool s.dn] 50)) := heap_alloc_new w _
    generalize (w.alloc (.cells #[.int .i64 s.k, .int .i64 s.ws.length, .int .i64 s.hurts, .int .i64 s.tu, .int .i64 s.cr, .bool s.dn] 50)).drew = W1 at *
    have HCC : Hid (∀ W, Gr W1 W → W.cell? ⟨w.heap.size, 0, none⟩ = some (.int .i64 s.k) ∧ W.cell? ⟨w.heap.size, 1, none⟩ = some (.int .i64 s.ws.length) ∧ W.cell? ⟨w.heap.size, 2, none⟩ = some (.int .i64 s.hurts) ∧ W.cell? ⟨w.heap.size, 3, none⟩ = some (.int .i64 s.tu) ∧ W.cell? ⟨w.heap.size, 4, none⟩ = some (.int .i64 s.cr) ∧ W.cell? ⟨w.heap.size, 5, none⟩ = some (.bool s.dn)) := fun W hg => ⟨cell_gr hg (cell_of_row _ _ _ _ _ _ HCL.out), cell_gr hg (cell_of_row _ _ _ _ _ _ HCL.out), cell_gr hg (cell_of_row _ _ _ _ _ _ HCL.out), cell_gr hg (cell_of_row _ _ _ _ _ _ HCL.out), cell_gr hg (cell_of_row _ _ _ _ _ _ HCL.out), cell_gr hg (cell_of_row _ _ _ _ _ _ HCL.out)⟩
    have HX1 := Lib.hid (HX.out.gr HG1.out)
    have HCR := Lib.hid (HCC.out _ (Gr.drew W1))
    clear HROW c0 c1 c3 c4 c5 HHU HCL
    go_wp2_with fail
    go_cut [40] from 37 to 40 (fun b wx => b = .bool false ∧ Hid (Gr W1 wx))
    case first =>
      go_region_held3 (fun w' => w'.cell? ⟨w.heap.size, 0, none⟩ = some (.int .i64 s.k) ∧ w'.cell? ⟨w.heap.size, 1, none⟩ = some (.int .i64 s.ws.length) ∧ w'.cell? ⟨w.heap.size, 2, none⟩ = some (.int .i64 s.hurts) ∧ w'.cell? ⟨w.heap.size, 3, none⟩ = some (.int .i64 s.tu) ∧ w'.cell? ⟨w.heap.size, 4, none⟩ = some (.int .i64 s.cr) ∧ w'.cell? ⟨w.heap.size, 5, none⟩ = some (.bool s.dn))
        (first | assumption | exact HCR.out | exact hcA)
        (first
          | (go_at_call 28; (with_reducible refine (tx_st (HX1.out.gr (Gr.drew W1)) rfl).mono ?_); rintro e' wA ⟨rfl, hgA⟩; have hcA := HCC.out wA (gr_dt hgA))
          | fail "no arm")
      all_goals (
        go_wp2_with fail
        go_meet
        first | exact ⟨rfl, gr_dt hgA⟩ | exact ⟨rfl, gr_dt (hgA.trans ((Gr.drew _).mono hgA.size))⟩)
    case rest =>
      obtain ⟨rfl, HG2⟩ := hcut
      have HX2 := Lib.hid (HX1.out.gr HG2.out)
      clear HX1 HCC HCR HG1 HG2
      go_wp2_with fail
      go_loopw [6] (fun i wr => ∃ n : Int, -1 ≤ n ∧ n ≤ s.k + 1 ∧ n ≤ 41 ∧ i = .int .i64 n ∧ Hid (Tx w D R s s wr)) (fun i _ => (42 - intOf i).toNat)
      case atStart => exact ⟨-1, by omega, by omega, by omega, rfl, HX2.out⟩
      case round =>
        obtain ⟨n, hn1, hn2, hn3, rfl, HT⟩ := hrel
        obtain ⟨cb', cc', c0⟩ := HT.out.len
        by_cases hlt : n ≤ s.k
        · by_cases hl2 : n ≤ 40
          · have hcc : ((s.rd n).2 != (s.rd n).2) = false := by simp
            go_wp2_with fail
            refine (tx_rd HT.out n rfl HWS.out).mono ?_
            rintro e w2 ⟨v1, rfl, hg2, hv1, _⟩
            have HT2 := Lib.hid (HT.out.gr hg2)
            have HV1 := Lib.hid hv1
            clear hg2 hv1
            go_wp2_with fail
            refine (ty_rd HT2.out n rfl HWS.out).mono ?_
            rintro e w3 ⟨v2, rfl, hg3, hv2⟩
            have HT3 := Lib.hid (HT2.out.gr hg3)
            have HV2 := Lib.hid hv2
            have HV3 := Lib.hid (HV1.out.gr hg3)
            clear hg3 hv2
            go_wp2_with fail
            refine (tx_so HT3.out n rfl).mono ?_
            rintro e w4 ⟨v3, rfl, hg4, hv4, hnew⟩
            have HNEW := Lib.hid hnew
            have HT4 := Lib.hid (HT3.out.gr hg4)
            have HV4 := Lib.hid (HV3.out.gr hg4)
            have HW4 := Lib.hid (HV2.out.gr hg4)
            have HS4 := Lib.hid hv4
            have HG4 := Lib.hid hg4
            clear hg4 hv4 hnew
            go_wp2_with fail
            refine (same_dr HV4.out HW4.out).mono ?_
            rintro e w5 ⟨rfl, hg5⟩
            have HT5 := Lib.hid (HT4.out.gr hg5)
            have HS5 := Lib.hid (HS4.out.gr hg5)
            have HG5 := Lib.hid (HG4.out.trans (hg5.mono HG4.out.size))
            clear hg5
            go_wp2_with fail
            refine (ty_so HT5.out n rfl).mono ?_
            rintro e w6 ⟨v4, rfl, hg6, hv6⟩
            have HS6 := Lib.hid (HS5.out.gr hg6)
            have HR6 := Lib.hid hv6
            have HG6 := Lib.hid (HG5.out.trans (hg6.mono HG5.out.size))
            clear hg6 hv6
            go_wp2_with fail
            refine (same_dr HS6.out HR6.out).mono ?_
            rintro e w7 ⟨rfl, hg7⟩
            have HS7 := Lib.hid (HS6.out.gr hg7)
            have HG7 := Lib.hid (HG6.out.trans (hg7.mono HG6.out.size))
            clear hg7
            go_wp2_with fail
            refine (over_dv HS7.out).mono ?_
            rintro e w8 ⟨rfl, hk8⟩
            have HT8 := Lib.hid (HT3.out.over HG7.out hk8 (fun b hb => HNEW.out b hb))
            clear hk8
            go_wp2_with fail
            go_roundw
            case rel => exact ⟨n + 1, by omega, by omega, by omega, by go_num, HT8.out⟩
            case measure => simp [intOf]; omega
          · go_wp2_with fail
            go_ret
            exact ⟨rfl, HT.out⟩
        · go_wp2_with fail
          go_ret
          exact ⟨rfl, HT.out⟩
end Go.Proofs.Ytkdphgcbecldbaa
/- The law DevDoes (9), walked. -/
namespace Go.Proofs.Ytkdphgcbecldbaa
open Go.RowKit
/-- both disks in a round -/
def Lp (B : Nat) (w0 : World) (d r j : Nat) (w : World) : Prop := B ≤ w0.heap.size ∧ ∃ D R s, Both w D R s ∧ D.d = d ∧ R.r = r ∧ (∀ b, D.fp b → B ≤ b) ∧ (∀ b, R.all b → B ≤ b) ∧ s.ws.length ≤ j ∧ Below B w0 w
theorem lp_tx {B : Nat} {w0 : World} {d r j : Nat} {w w' : World} {D : Dk} {R : Rk} {s' : St} (hd : D.d = d) (hr : R.r = r) (h1 : ∀ b, D.fp b → B ≤ b) (h2 : ∀ b, R.all b → B ≤ b) (hb : Below B w0 w) (hB : B ≤ w0.heap.size) (k : Tx w D R s' s' w') (hj : s'.ws.length ≤ j) : Lp B w0 d r j w' := by
  have hbe := k.below (Nat.le_trans hB hb.size) h1 (fun b hb => h2 b (.inl hb))
  obtain ⟨D', R', hv, e1, e2⟩ := k
  refine ⟨hB, D', R', s', ⟨hv.d, hv.r, hv.ap, e1, e2⟩, hv.ed.trans hd, hv.er.trans hr, fun b hb' => (hv.df b hb').elim (h1 b) (fun hh => Nat.le_trans (Nat.le_trans hB hb.size) hh), fun b hb' => (hv.ra b hb').elim (h2 b) (fun hh => Nat.le_trans (Nat.le_trans hB hb.size) hh), hj, hb.trans hbe⟩
theorem lp_does {B : Nat} {w0 : World} {d r j : Nat} {w : World} (h : Lp B w0 d r j w) (hj : j ≤ 500) (x : Deed) (hok : DeedOk w0 B x) (hl : x.b.length ≤ 100000) (h0 : x.s.a = none → x.s.c = 0) :
    Calls Try.prog 38 #[.pointer (some ⟨d, 0, none⟩), .pointer (some ⟨r, 0, none⟩), .agg x.cs.toArray] w fun e w' => e = .returned (.bool true) ∧ Lp B w0 d r (j + 1) w' := by
  obtain ⟨hB, D, R, s, hb, rfl, rfl, h1, h2, hs, hbe⟩ := h
  have hok' : DeedOk w B x := ⟨hok.bs.below hbe (Nat.le_refl _), hok.len, hok.what, hok.n, hok.torn, hok.part, hok.mask⟩
  refine (does_any w D R s x B hb (by omega) hok' (Nat.le_trans hB hbe.size) h1 (fun b hf => h2 b (.inl hf)) hl h0).mono ?_
  rintro e w' ⟨rfl, s', hx, hl', _⟩
  exact ⟨rfl, lp_tx rfl rfl h1 h2 hbe hB hx (by omega)⟩
theorem lp_same {B : Nat} {w0 : World} {d r j : Nat} {w : World} (h : Lp B w0 d r j w) (hj : j ≤ 500) :
    Calls Try.prog 39 #[.pointer (some ⟨d, 0, none⟩), .pointer (some ⟨r, 0, none⟩)] w fun e w' => e = .returned (.bool true) ∧ Lp B w0 d r j w' := by
  obtain ⟨hB, D, R, s, hb, rfl, rfl, h1, h2, hs, hbe⟩ := h
  refine (same_ok w D R s hb (by omega)).mono ?_
  rintro e w' ⟨rfl, hx⟩
  exact ⟨rfl, lp_tx rfl rfl h1 h2 hbe hB hx hs⟩
theorem gs_each (xs : List Deed) : ∀ x, x ∈ xs → x.b.length ≤ gs xs xs.length := by
  intro x hx
  unfold gs
  rw [List.take_length]
  induction xs with
  | nil => cases hx
  | cons y r ih =>
    rw [List.map_cons, List.sum_cons]
    rcases List.mem_cons.1 hx with rfl | h
    · omega
    · have := ih h; omega
theorem not_great {blocks : Int} {xs : List Deed} (h : greatB blocks xs = false) : xs.length ≤ 120 ∧ (∀ x, x ∈ xs → x.b.length ≤ 10000) := by
  unfold greatB at h
  simp only [Bool.or_eq_false_iff, decide_eq_false_iff_not] at h
  obtain ⟨⟨h1, h2⟩, _⟩ := h
  have hm : min xs.length 120 = xs.length := by omega
  rw [hm] at h2
  exact ⟨by omega, fun x hx => by have := gs_each xs x hx; omega⟩
set_option maxRecDepth 100000 in
set_option maxHeartbeats 4000000 in
theorem devdoes_any (blocks : Int) (A : Option Addr) (n c : Nat) (xs : List Deed) (w : World) (h : Ds w w.heap.size A n xs) (hb : i64 blocks) (h0 : ∀ x, x ∈ xs → x.s.a = none → x.s.c = 0) :
    Calls Try.prog 9 #[.int .i64 blocks, .slice A n c] w fun r w' => r = .returned (.bool true) ∧ Gr w w' := by
  have H := Lib.hid h
  have HN := Lib.hid h.len
  have hmx := h.max
  have HB := Lib.hid hb
  have H0 := Lib.hid h0
  clear h hb h0
  cases hg : greatB blocks xs with
  | true =>
    have HG := Lib.hid hg
    clear hg
    go_enter Try.func9, Try.ntmps9
    go_wp2_with fail
    refine (great_ok blocks A n c xs w.heap.size w H.out HB.out).mono ?_
    rintro e w1 ⟨rfl, rfl⟩
    rw [HG.out]
    go_wp2_with fail
    refine (awake_ok _).mono ?_
    rintro e w2 ⟨rfl, hg⟩
    have HGR := Lib.hid hg
    clear hg
    go_wp2_with fail
    go_ret
    exact ⟨rfl, HGR.out⟩
  | false =>
    have HG := Lib.hid hg
    have HNG := Lib.hid (not_great hg)
    clear hg
    by_cases hk : blocks < 1 ∨ 4096 < blocks
    · have HK := Lib.hid hk
      clear hk
      go_enter Try.func9, Try.ntmps9
      go_wp2_with fail
      refine (great_ok blocks A n c xs w.heap.size w H.out HB.out).mono ?_
      rintro e w1 ⟨rfl, rfl⟩
      rw [HG.out]
      go_wp2_with fail
      refine (new_no blocks _ HK.out).mono ?_
      rintro e w2 ⟨rfl, rfl⟩
      go_wp2_with fail
      refine (rnew_no blocks _ HK.out).mono ?_
      rintro e w3 ⟨rfl, rfl⟩
      go_wp2_with fail
      go_loopw [9] (fun i wr => i = .int .i64 0 ∧ wr = w3) (fun _ _ => 0)
      case atStart => exact ⟨rfl, rfl⟩
      case round =>
        obtain ⟨rfl, rfl⟩ := hrel
        go_wp2_with fail
        all_goals (
          refine (awake_ok _).mono ?_
          rintro e w2 ⟨rfl, hg⟩
          have HGR := Lib.hid hg
          clear hg
          go_wp2_with fail
          go_ret
          exact ⟨rfl, HGR.out⟩)
    · obtain ⟨k, rfl⟩ : ∃ k : Nat, blocks = (k : Int) := ⟨blocks.toNat, by omega⟩
      have HK : Hid (1 ≤ k ∧ k ≤ 4096) := by show _ ∧ _; omega
      clear hk
      go_enter Try.func9, Try.ntmps9
      go_wp2_with fail
      refine (great_ok k A n c xs w.heap.size w H.out HB.out).mono ?_
      rintro e w1 ⟨rfl, rfl⟩
      rw [HG.out]
      go_wp2_with fail
      refine (new_yes k _ HK.out.1 HK.out.2).mono ?_
      rintro e w2 ⟨d, bb, hb, rfl, hgn, hd1, g1, g2, g3⟩
      have HD := Lib.hid (And.intro hgn (And.intro hd1 (And.intro g1 (And.intro g2 g3))))
      clear hgn hd1 g1 g2 g3
      go_wp2_with fail
      refine (rnew_yes k _ HK.out.1 HK.out.2).mono ?_
      rintro e w3 ⟨R, rfl, hg3, hr3, ha3, hs3⟩
      have HLP0 : Hid (Lp w1.heap.size w1 d R.r 0 w3) := by
        obtain ⟨hgn, hd1, g1, g2, g3⟩ := HD.out
        have hfp : ∀ b, (Dk.fresh d bb hb k).fp b → w1.heap.size ≤ b := by
          rintro b (rfl | rfl | rfl | h)
          · exact g3
          · exact g1
          · exact g2
          · simp [Dk.fresh, Value.ownBlock] at h
        refine ⟨Nat.le_refl _, Dk.fresh d bb hb k, R, .new k, ⟨hd1.gr hg3, hr3, fun b h1 h2 => ?_, rfl, hs3⟩, rfl, rfl, hfp, fun b hb' => Nat.le_trans hgn.size (ha3 b hb'), Nat.zero_le _, hgn.trans (hg3.mono hgn.size)⟩
        have := hd1.fp_lt h1
        have := ha3 b h2
        omega
      have hr0 : R.r < w3.heap.size := lt_of_heap hr3.row
      clear hg3 hr3 ha3 hs3 HD
      generalize R.r = r at *
      go_wp2_with fail
      go_loopw [9] (fun i wr => ∃ j : Nat, j ≤ n ∧ i = .int .i64 j ∧ Hid (Lp w1.heap.size w1 d r j wr)) (fun i _ => n - (intOf i).toNat)
      case atStart => exact ⟨0, by omega, rfl, HLP0.out⟩
      case round =>
        obtain ⟨j, hj, rfl, HL⟩ := hrel
        by_cases hlt : j < n
        · have hjx : j < xs.length := by have := HN.out; omega
          have HGB : Hid (Below w1.heap.size w1 wr) := by obtain ⟨_, _, _, _, _, _, _, _, _, _, h⟩ := HL.out; exact h
          have hD1 := H.out.below HGB.out (Nat.le_refl _)
          obtain ⟨bd, od, rfl, hbB, q0, q1, q2, q3, q4, q5⟩ := hD1.cell (i := j) hjx
          have hJ : j ≤ 500 := by have := HNG.out.1; omega
          have HDO := Lib.hid (lp_does HL.out hJ xs[j] (H.out.ok xs[j] (List.getElem_mem _)) (by have := HNG.out.2 xs[j] (List.getElem_mem _); omega) (H0.out xs[j] (List.getElem_mem _)))
          have HJ1 : Hid (j + 1 ≤ 500) := by have := HNG.out.1; show _ ≤ _; omega
          clear hD1 hJ
          generalize xs[j] = e at *
          clear hjx
          unfold Sl.v at q2
          have b1 : (0 : Int) ≤ (j : Int) := by omega
          have b2 : (j : Int) < (n : Int) := by omega
          go_wp2_with fail
          refine HDO.out.mono ?_
          rintro e' w4 ⟨rfl, hl4⟩
          have HL4 := Lib.hid hl4
          clear hl4
          go_wp2_with fail
          refine (lp_same HL4.out HJ1.out).mono ?_
          rintro e' w5 ⟨rfl, hl5⟩
          have HL5 := Lib.hid hl5
          clear hl5
          go_wp2_with fail
          go_roundw
          case rel => exact ⟨j + 1, by omega, by go_num, HL5.out⟩
          case measure => simp [intOf]; omega
        · have HGB : Hid (Below w1.heap.size w1 wr) := by obtain ⟨_, _, _, _, _, _, _, _, _, _, h⟩ := HL.out; exact h
          go_wp2_with fail
          refine (awake_ok _).mono ?_
          rintro e w2 ⟨rfl, hg⟩
          have HGR := Lib.hid (HGB.out.trans (hg.mono HGB.out.size))
          clear hg
          go_wp2_with fail
          go_ret
          exact ⟨rfl, HGR.out⟩
end Go.Proofs.Ytkdphgcbecldbaa
