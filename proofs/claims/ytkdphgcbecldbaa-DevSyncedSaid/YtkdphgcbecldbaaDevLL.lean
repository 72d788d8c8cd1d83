/- The law DevSynced (7), walked. -/
import Derived.Test.YtkdphgcbecldbaaDevMM
namespace Go.Proofs.Ytkdphgcbecldbaa
open Go.RowKit
/-- a disk that has been written to -/
def Wr (B : Nat) (w0 : World) (d k : Nat) (bl : Nat → List Nat) (hu : Nat → Bool) (ws : List (Nat × List Nat)) (w : World) : Prop := ∃ D, Up B w0 w d D ∧ Is D k false bl hu ws
theorem Wr.gr {B : Nat} {w0 : World} {d k : Nat} {bl : Nat → List Nat} {hu : Nat → Bool} {ws : List (Nat × List Nat)} {w w' : World} (h : Wr B w0 d k bl hu ws w) (hg : Gr w w') : Wr B w0 d k bl hu ws w' := by
  obtain ⟨D, h1, h2⟩ := h
  exact ⟨D, h1.more hg, h2⟩
theorem wr_write {B : Nat} {w0 w : World} {d k : Nat} {bl : Nat → List Nat} {hu : Nat → Bool} {ws : List (Nat × List Nat)} (h : Wr B w0 d k bl hu ws w) (hk : 1 ≤ k) (hws : ws.length ≤ 1000000) (x : Deed) (hok : DeedOk w0 B x) :
    Calls Try.prog 26 #[.pointer (some ⟨d, 0, none⟩), .int .i64 (pick x.n k), .slice x.s.a x.s.n x.s.c] w fun r w' => (∃ c, r = .returned (.int .i64 c)) ∧ Wr B w0 d k bl hu (ws ++ wsOf k x) w' ∧ Below B w w' := by
  obtain ⟨D, h1, h2⟩ := h
  have hok' : DeedOk w B x := ⟨hok.bs.below h1.gr (Nat.le_refl _), hok.len, hok.what, hok.n, hok.torn, hok.part, hok.mask⟩
  refine (up_write h1 h2 hk hws x hok').mono ?_
  rintro r w' ⟨hc, D', hm, hU, hI⟩
  exact ⟨hc, ⟨D', hU, hI⟩, (hm.kp h1.fp (Nat.le_trans h1.le h1.gr.size) (Below.refl _ _)).1⟩
/-- told blocks, one after the other -/
def sv (g : Nat) : Value := .slice (some ⟨g, 0, none⟩) 256 256
def ToldAt (w : World) (B : Nat) (gs : List Nat) (bl : Nat → List Nat) : Prop := ∀ q (h : q < gs.length), B ≤ gs[q] ∧ Blk w gs[q] 93 (bvs (bl q)).toArray
theorem ToldAt.keep {w w' : World} {B : Nat} {gs : List Nat} {bl : Nat → List Nat} (h : ToldAt w B gs bl) (hk : ∀ g cs, Blk w g 93 cs → Blk w' g 93 cs) : ToldAt w' B gs bl := fun q hq => ⟨(h q hq).1, hk _ _ (h q hq).2⟩
theorem ToldAt.snoc {w : World} {B : Nat} {gs : List Nat} {bl : Nat → List Nat} (h : ToldAt w B gs bl) {g : Nat} (hg : B ≤ g) (hb : Blk w g 93 (bvs (bl gs.length)).toArray) : ToldAt w B (gs ++ [g]) bl := fun q hq => by
  by_cases e : q < gs.length
  · rw [List.getElem_append_left e]; exact h q e
  · have e' : q = gs.length := by rw [List.length_append, List.length_singleton] at hq; omega
    subst e'
    rw [List.getElem_append_right (Nat.le_refl _)]
    simp only [Nat.sub_self, List.getElem_singleton]
    exact ⟨hg, hb⟩
/-- a disk that has moved on, and has been written to -/
def Wm (B : Nat) (w0 wB : World) (D0 : Dk) (d k : Nat) (bl : Nat → List Nat) (hu : Nat → Bool) (ws : List (Nat × List Nat)) (w : World) : Prop := ∃ D, Mv wB D0 w D ∧ Up B w0 w d D ∧ Is D k false bl hu ws
theorem Wm.more {B : Nat} {w0 wB w w' : World} {D0 : Dk} {d k : Nat} {bl : Nat → List Nat} {hu : Nat → Bool} {ws : List (Nat × List Nat)} (h : Wm B w0 wB D0 d k bl hu ws w) (hg : Gr w w') : Wm B w0 wB D0 d k bl hu ws w' := by
  obtain ⟨D, h0, h1, h2⟩ := h
  exact ⟨D, h0.trans (Mv.gr h0.2.1 hg), h1.more hg, h2⟩
theorem Wm.gr {B : Nat} {w0 wB w : World} {D0 : Dk} {d k : Nat} {bl : Nat → List Nat} {hu : Nat → Bool} {ws : List (Nat × List Nat)} (h : Wm B w0 wB D0 d k bl hu ws w) : Below B w0 w := by
  obtain ⟨D, _, h1, _⟩ := h
  exact h1.gr
theorem wm_write {B : Nat} {w0 wB w : World} {D0 : Dk} {d k : Nat} {bl : Nat → List Nat} {hu : Nat → Bool} {ws : List (Nat × List Nat)} (h : Wm B w0 wB D0 d k bl hu ws w) (hk : 1 ≤ k) (hws : ws.length ≤ 1000000) (x : Deed) (hok : DeedOk w0 B x) :
    Calls Try.prog 26 #[.pointer (some ⟨d, 0, none⟩), .int .i64 (pick x.n k), .slice x.s.a x.s.n x.s.c] w fun r w' => (∃ c, r = .returned (.int .i64 c)) ∧ Wm B w0 wB D0 d k bl hu (ws ++ wsOf k x) w' ∧ Below B w w' := by
  obtain ⟨D, h0, h1, h2⟩ := h
  have hok' : DeedOk w B x := ⟨hok.bs.below h1.gr (Nat.le_refl _), hok.len, hok.what, hok.n, hok.torn, hok.part, hok.mask⟩
  refine (up_write h1 h2 hk hws x hok').mono ?_
  rintro r w' ⟨hc, D', hm, hU, hI⟩
  exact ⟨hc, ⟨D', h0.trans hm, hU, hI⟩, (hm.kp h1.fp (Nat.le_trans h1.le h1.gr.size) (Below.refl _ _)).1⟩
theorem told_row {w : World} {B k : Nat} {v : Value} {gs : List Nat} (h : w.ownsRow B 24 1 v k (gs.map sv)) (hk : 1 ≤ k) : ∃ g cap, v = .slice (some ⟨g, 0, none⟩) k cap ∧ B ≤ g ∧ g < w.heap.size ∧ ∀ i (hi : i < gs.length), w.cell? ⟨g, i, none⟩ = some (sv gs[i]) := by
  obtain ⟨hl, ⟨_, h0⟩ | ⟨g, cap, cur, hv, hg, hh, hle, hc1, hc2, hr⟩⟩ := h
  · omega
  · refine ⟨g, cap, hv, hg, (Array.getElem?_eq_some_iff.1 hh).1, fun i hi => ?_⟩
    rw [List.length_map, Nat.mul_one] at hl
    rw [cell_of_row w g _ _ _ _ hh]
    have : (gs.map sv)[i]? = some (sv gs[i]) := by rw [List.getElem?_map, List.getElem?_eq_getElem hi]; rfl
    rw [← hr, List.getElem?_take, if_pos (by omega), Array.getElem?_toList] at this
    exact this
theorem Mv.aside {w w' : World} {D D' : Dk} (h : Mv w D w' D') {b : Nat} (hb : b < w.heap.size) (hn : ¬ D.fp b) : w'.heap[b]? = w.heap[b]? := h.1.block b hb hn
theorem Ds.more {w : World} {B B' : Nat} {A : Option Addr} {n : Nat} {xs : List Deed} (h : Ds w B A n xs) (hB : B ≤ B') : Ds w B' A n xs := by
  refine ⟨h.len, h.max, fun hn => ?_, fun x hx => ?_⟩
  · obtain ⟨b, o, e, hlt, hc⟩ := h.at_ hn
    exact ⟨b, o, e, Nat.lt_of_lt_of_le hlt hB, hc⟩
  · have k := h.ok x hx
    exact ⟨k.bs.more hB, k.len, k.what, k.n, k.torn, k.part, k.mask⟩
theorem field50w (a b c d e : Int) (g : Bool) (w : World) : (Instr.field 50 (.agg #[.int .i64 a, .int .i64 b, .int .i64 c, .int .i64 d, .int .i64 e, .bool g]) 1).run Try.prog w = .ok (.int .i64 b) w := by
  unfold Instr.field
  simp [Sem.run_bind, go_sem, asAgg]
set_option maxRecDepth 100000 in
set_option maxHeartbeats 8000000 in
theorem synced_in (k : Nat) (stay torn part : Int) (A1 A2 : Option Addr) (n1 c1 n2 c2 : Nat) (xs1 xs2 : List Deed) (w : World) (h1 : Ds w w.heap.size A1 n1 xs1) (h2 : Ds w w.heap.size A2 n2 xs2) (hk1 : 1 ≤ k) (hk2 : k ≤ 40)
    (hn : n1 + n2 ≤ 60) (hg1 : greatB k xs1 = false) (hg2 : greatB k xs2 = false) :
    Calls Try.prog 7 #[.int .i64 k, .slice A1 n1 c1, .slice A2 n2 c2, .int .i64 stay, .int .i64 torn, .int .i64 part] w fun r w' => r = .returned (.bool true) ∧ Gr w w' := by
  have H1 := Lib.hid h1
  have H2 := Lib.hid h2
  have HN1 := Lib.hid h1.len
  have HN2 := Lib.hid h2.len
  have HG1 := Lib.hid hg1
  have HG2 := Lib.hid hg2
  have HB : Hid (i64 k) := by unfold Hid i64; omega
  have g6 : (n1 : Int) + (n2 : Int) ≤ 60 := by omega
  clear h1 h2 hg1 hg2
  go_enter Try.func7, Try.ntmps7
  go_wp2_with fail
  refine (awake_ok w).mono ?_
  rintro e w1 ⟨rfl, hg⟩
  have HG := Lib.hid hg
  clear hg
  go_wp2_with fail
  refine (great_ok k A1 n1 c1 xs1 w.heap.size w1 (H1.out.below HG.out (Nat.le_refl _)) HB.out).mono ?_
  rintro e w1 ⟨rfl, rfl⟩
  rw [HG1.out]
  go_wp2_with fail
  refine (great_ok k A2 n2 c2 xs2 w.heap.size w1 (H2.out.below HG.out (Nat.le_refl _)) HB.out).mono ?_
  rintro e w1 ⟨rfl, rfl⟩
  rw [HG2.out]
  go_wp2_with fail
  refine (new_is k w1 hk1 (by omega)).mono ?_
  rintro e w2 ⟨d, D, rfl, hdd, hgn, hd1, hf1, hI1⟩
  have HW0 : Hid (Wr w.heap.size w d k (fun _ => Z 256) (fun _ => false) [] w2) := ⟨D, ⟨hd1, hdd, fun b hb => Nat.le_trans HG.out.size (hf1 b hb), HG.out.trans (hgn.mono HG.out.size), Nat.le_refl _⟩, hI1⟩
  clear hd1 hI1 hgn hf1 hdd HG1 HG2
  go_wp2_with fail
  go_loopw [16] (fun i wr => ∃ j : Nat, j ≤ n1 ∧ i = .int .i64 j ∧ Hid (Wr w.heap.size w d k (fun _ => Z 256) (fun _ => false) (wsL k (xs1.take j)) wr) ∧ Hid (Gr w wr)) (fun i _ => n1 - (intOf i).toNat)
  case atStart => exact ⟨0, by omega, rfl, HW0, by obtain ⟨D, h, _⟩ := HW0.out; exact h.gr⟩
  case round =>
    obtain ⟨j, hj, rfl, HW, HGR⟩ := hrel
    by_cases hlt : j < n1
    · have hjx : j < xs1.length := by have := HN1.out; omega
      have hD1 := H1.out.below HGR.out (Nat.le_refl _)
      obtain ⟨bd, od, rfl, hbB, q0, q1, q2, q3, q4, q5⟩ := hD1.cell (i := j) hjx
      have HOK := Lib.hid (H1.out.ok xs1[j] (List.getElem_mem _))
      have HSC := Lib.hid (wsL_succ k xs1 j hjx)
      have HLN : Hid ((wsL k (xs1.take j)).length ≤ 1000000) := by
        have := wsL_len k (xs1.take j)
        have := List.length_take_le j xs1
        show _ ≤ _
        omega
      clear hD1 q0 q3 q4 q5
      generalize xs1[j] = e at *
      clear hjx
      unfold Sl.v at q2
      have b1 : (0 : Int) ≤ (j : Int) := by omega
      have b2 : (j : Int) < (n1 : Int) := by omega
      have HPK : Hid (∀ W, Calls Try.prog 21 #[.int .i64 e.n, .int .i64 k] W fun e' w' => e' = .returned (.int .i64 (pick e.n k)) ∧ W = w') := fun W => pick_any e.n k _ HB.out.2
      go_wp2_with fail
      go_region_held3 (fun w' => w'.cell? ⟨bd, od + j * 6 + 1, none⟩ = some (.int .i64 e.n) ∧ w'.cell? ⟨bd, od + j * 6 + 2, none⟩ = some (.slice e.s.a e.s.n e.s.c))
        (first | assumption | exact ⟨q1, q2⟩ | exact ⟨(Below.cell (p := ⟨bd, od + j * 6 + 1, none⟩) (by assumption) hbB).trans q1, (Below.cell (p := ⟨bd, od + j * 6 + 2, none⟩) (by assumption) hbB).trans q2⟩)
        (first
          | (go_at_call 21; (with_reducible refine (HPK.out _).mono ?_); rintro e' w' ⟨rfl, rfl⟩)
          | (go_at_call 26; (with_reducible refine (wr_write (HW.out.gr (Gr.drew _)) hk1 HLN.out e HOK.out).mono ?_); rintro e' w' ⟨⟨cc, rfl⟩, hwr, hbw⟩; have hb9 : Below w.heap.size wr w' := ⟨hbw.os, hbw.tape, hbw.output, hbw.size, hbw.block⟩; clear hbw)
          | fail "no arm")
      all_goals (
        have HWR := Lib.hid hwr
        clear hwr
        go_wp2_with fail
        go_roundw
        case rel => exact ⟨j + 1, by omega, by go_num, by rw [HSC.out]; exact HWR.out, by obtain ⟨D', h', _⟩ := HWR.out; exact h'.gr⟩
        case measure => simp [intOf]; omega)
    · obtain rfl : j = n1 := by omega
      have htk : xs1.take j = xs1 := by rw [HN1.out]; exact List.take_length
      rw [htk] at HW
      clear htk HW0
      obtain ⟨D1, hU1, hI1⟩ := HW.out
      have HU1 := Lib.hid hU1
      have HI1 := Lib.hid hI1
      have HLN : Hid ((wsL k xs1).length ≤ 1000000) := by
        have h := wsL_len k xs1
        have := HN1.out
        show _ ≤ _
        omega
      clear hU1 hI1 HW HGR
      go_wp2_with fail
      have hc := sync_is HI1.out _ HU1.out.dsk HLN.out
      rw [HU1.out.d] at hc
      refine hc.mono ?_
      clear hc
      rintro e w3 ⟨rfl, D2, hm2, hI2⟩
      have HI2 := Lib.hid hI2
      have HU2 := Lib.hid (HU1.out.mv hm2)
      clear hm2 hI2 HI1 HU1
      have hf50 := field50w
      go_wp2_with fail
      have hc := stat_is HI2.out _ HU2.out.dsk
      rw [HU2.out.d] at hc
      refine hc.mono ?_
      clear hc
      rintro e w4 ⟨t1, t2, rfl, hg4⟩
      have HU4 := Lib.hid (HU2.out.more hg4)
      clear hg4 HU2
      go_wp2_with fail
      obtain ⟨bl1, hbl1⟩ : ∃ x, x = stb (fun _ => Z 256) (wsL k xs1) := ⟨_, rfl⟩
      obtain ⟨hu1, hhu1⟩ : ∃ x, x = sth (fun _ => false) (wsL k xs1) := ⟨_, rfl⟩
      rw [← hbl1, ← hhu1] at HI2
      clear hbl1 hhu1 hf50
      obtain ⟨i24, hi24, hz24, hs24, hy24⟩ := info_parts info24
      have i24' := Lib.hid (And.intro hi24 (And.intro hz24 (And.intro hs24 hy24)))
      clear hi24 hz24 hs24 hy24
      go_loopw [15, 17] (fun v i wr => ∃ (q : Nat) (gs : List Nat), q ≤ k ∧ i = .int .i64 q ∧ Hid (gs.length = q) ∧ Hid (wr.ownsRow w4.heap.size 24 1 v q (gs.map sv)) ∧ Hid (ToldAt wr w4.heap.size gs bl1) ∧ Hid (Gr w4 wr)) (fun _ i _ => k - (intOf i).toNat)
      case atStart => exact ⟨0, [], by omega, rfl, rfl, ⟨rfl, .inl ⟨rfl, rfl⟩⟩, fun i hi => absurd hi (by simp), Gr.refl _⟩
      case round =>
        obtain ⟨q, gs, hq, rfl, HQ, HOWN, HT, HGW⟩ := hrel
        by_cases hqk : q < k
        · go_wp2_with fail
          have HU := Lib.hid (HU4.out.more HGW.out)
          have hc := stored_is HI2.out q _ HU.out.dsk hqk
          rw [HU.out.d] at hc
          refine hc.mono ?_
          clear hc
          rintro e w5 ⟨g, hgB, hblk, rfl, hb1⟩
          have HOWN2 := Lib.hid (ownsRow_below HOWN.out hb1)
          have hbl : Blk w5 g 93 (bvs (bl1 gs.length)).toArray := by rw [HQ.out]; exact hblk
          have HT2 := Lib.hid ((HT.out.keep fun g cs hg => hg.below hb1 hg.lt).snoc (Nat.le_trans HGW.out.size hgB) hbl)
          have HGW2 : Hid (Gr w4 w5) := Gr.step hb1 HGW.out
          clear hblk hbl hb1 HU
          go_wp2_with (at_builtin; refine wpList_append_own _ rfl (.tmp 92) (.tmp 96) 22 rfl w4.heap.size 24 i24 (.slice none 0 0) 1 24 Try.underlying22 i24'.out.1 i24'.out.2.1 i24'.out.2.2.1 i24'.out.2.2.2 rfl (by decide) u15 q _ rfl (HOWN2.out.alloc _) ⟨w5.heap.size, 0, none⟩ 1 1 [.slice (some ⟨g, 0, none⟩) 256 256] rfl rfl ?d1 ?d2 ?d3 ?d4 ?d5 ?_)
          case d1 => exact cell_one_new _ _ _
          case d2 => intro u hu; rw [List.mem_singleton.1 hu]; rfl
          case d3 => unfold maxLen; omega
          case d4 => omega
          case d5 => rw [World.size_alloc]; have := HGW2.out.size; omega
          intro v' w6 hown3 hg3 _
          have HGW3 : Hid (Gr w4 w6) := (Gr.alloc HGW2.out _).grown hg3 (by rw [World.size_alloc]; have := HGW2.out.size; omega) (fun q hq => by
            rcases HOWN2.out.2 with ⟨rfl, _⟩ | ⟨g', cap, cur, rfl, hgg, _⟩
            · simp [Value.ownBlock] at hq
            · have : g' = q := by simpa [Value.ownBlock] using hq
              omega)
          have HT3 := Lib.hid (HT2.out.keep fun g cs hg => (hg.alloc _).grown hg3 (own_ne HOWN2.out hg (by decide)))
          have HOWN3 := Lib.hid hown3
          clear hown3 hg3
          go_wp2_with fail
          go_roundw
          case rel =>
            refine ⟨q + 1, gs ++ [g], by omega, by go_num, by show _ = _; rw [List.length_append, HQ.out]; rfl, ?_, HT3.out, HGW3.out⟩
            have h := HOWN3.out
            rw [List.map_append]
            exact h
          case measure => simp [intOf]; omega
        · obtain rfl : k = q := by omega
          have HU := Lib.hid (HU4.out.more HGW.out)
          have HN0 : Hid (∀ b, D2.fp b → b < w4.heap.size) := fun b hb => HU4.out.dsk.fp_lt hb
          have HW2 : Hid (Wm w.heap.size w wr D2 d k bl1 hu1 [] wr) := ⟨D2, Mv.refl HU.out.dsk, HU.out, HI2.out⟩
          clear HU4 HI2 HGW HU
          generalize wr = wB at *
          generalize u15 = vR at *
          go_wp2_with fail
          go_loopw [18] (fun i wr => ∃ j2 : Nat, j2 ≤ n2 ∧ i = .int .i64 j2 ∧ Hid (Wm w.heap.size w wB D2 d k bl1 hu1 (wsL k (xs2.take j2)) wr)) (fun i _ => n2 - (intOf i).toNat)
          case atStart => exact ⟨0, by omega, rfl, HW2⟩
          case round =>
            obtain ⟨j2, hj2, rfl, HW⟩ := hrel
            by_cases hlt2 : j2 < n2
            · have hjx : j2 < xs2.length := by have := HN2.out; omega
              have hD1 := H2.out.below HW.out.gr (Nat.le_refl _)
              obtain ⟨bd, od, rfl, hbB, q0, q1, q2, q3, q4, q5⟩ := hD1.cell (i := j2) hjx
              have HOK := Lib.hid (H2.out.ok xs2[j2] (List.getElem_mem _))
              have HSC := Lib.hid (wsL_succ k xs2 j2 hjx)
              have HLN2 : Hid ((wsL k (xs2.take j2)).length ≤ 1000000) := by
                have := wsL_len k (xs2.take j2)
                have := List.length_take_le j2 xs2
                show _ ≤ _
                omega
              clear hD1 q0 q3 q4 q5
              generalize xs2[j2] = e at *
              clear hjx
              unfold Sl.v at q2
              have b1 : (0 : Int) ≤ (j2 : Int) := by omega
              have b2 : (j2 : Int) < (n2 : Int) := by omega
              have HPK : Hid (∀ W, Calls Try.prog 21 #[.int .i64 e.n, .int .i64 k] W fun e' w' => e' = .returned (.int .i64 (pick e.n k)) ∧ W = w') := fun W => pick_any e.n k _ HB.out.2
              go_wp2_with fail
              go_region_held3 (fun w' => w'.cell? ⟨bd, od + j2 * 6 + 1, none⟩ = some (.int .i64 e.n) ∧ w'.cell? ⟨bd, od + j2 * 6 + 2, none⟩ = some (.slice e.s.a e.s.n e.s.c))
                (first | assumption | exact ⟨q1, q2⟩ | exact ⟨(Below.cell (p := ⟨bd, od + j2 * 6 + 1, none⟩) (by assumption) hbB).trans q1, (Below.cell (p := ⟨bd, od + j2 * 6 + 2, none⟩) (by assumption) hbB).trans q2⟩)
                (first
                  | (go_at_call 21; (with_reducible refine (HPK.out _).mono ?_); rintro e' w' ⟨rfl, rfl⟩)
                  | (go_at_call 26; (with_reducible refine (wm_write (HW.out.more (Gr.drew _)) hk1 HLN2.out e HOK.out).mono ?_); rintro e' w' ⟨⟨cc, rfl⟩, hwr, hbw⟩; have hb9 : Below w.heap.size wr w' := ⟨hbw.os, hbw.tape, hbw.output, hbw.size, hbw.block⟩; clear hbw)
                  | fail "no arm")
              all_goals (
                have HWR := Lib.hid hwr
                clear hwr
                go_wp2_with fail
                go_roundw
                case rel => exact ⟨j2 + 1, by omega, by go_num, by rw [HSC.out]; exact HWR.out⟩
                case measure => simp [intOf]; omega)
            · obtain rfl : n2 = j2 := by omega
              have htk : xs2.take n2 = xs2 := by rw [HN2.out]; exact List.take_length
              rw [htk] at HW
              clear htk HW2
              have HLN2 : Hid ((wsL k xs2).length ≤ 1000000) := by
                have h := wsL_len k xs2
                have := HN2.out
                show _ ≤ _
                omega
              obtain ⟨D3, hM3, hU3, hI3⟩ := HW.out
              have HBL1 : Hid (∀ i, i < k → (bl1 i).length = 256 ∧ Small (bl1 i)) := fun i hi => by
                have := hU3.dsk.bln i (by rw [hI3.k]; exact hi)
                rw [hI3.bl] at this
                exact this
              have HM3 := Lib.hid hM3
              have HU3 := Lib.hid hU3
              have HI3 := Lib.hid hI3
              clear hM3 hU3 hI3 HW
              go_wp2_with fail
              have hc := crash_is HI3.out _ HU3.out.dsk
              rw [HU3.out.d] at hc
              refine hc.mono ?_
              clear hc
              rintro e w7 ⟨rfl, D4, hm4, hI4⟩
              have HI4 := Lib.hid hI4
              have HU4 := Lib.hid (HU3.out.mv hm4)
              have HM4 := Lib.hid (HM3.out.trans hm4)
              clear hm4 hI4 HU3 HI3 HM3
              go_wp2_with fail
              have hc := wake_is HI4.out stay torn part _ HU4.out.dsk HLN2.out
              rw [HU4.out.d] at hc
              refine hc.mono ?_
              clear hc
              rintro e w8 ⟨rfl, D5, hu5, hm5, hI5⟩
              have HI5 := Lib.hid hI5
              have HU5 := Lib.hid (HU4.out.mv hm5)
              have HM5 := Lib.hid (HM4.out.trans hm5)
              clear hm5 hI5 HU4 HI4 HM4
              go_wp2_with fail
              obtain ⟨gr, rcap, rfl, hgr1, hgr2, hrow⟩ := told_row HOWN.out hk1
              have HROW : Hid (∀ i (hi : i < gs.length), w8.cell? ⟨gr, i, none⟩ = some (sv gs[i])) := fun i hi =>
                (World.cell?_of_block (HM5.out.aside hgr2 (fun hf => absurd (HN0.out gr hf) (by omega)))).trans (hrow i hi)
              have HT8 : Hid (ToldAt w8 w4.heap.size gs bl1) := fun i hi => ⟨(HT.out i hi).1, (HM5.out.aside (HT.out i hi).2.lt (fun hf => absurd (HN0.out _ hf) (by have := (HT.out i hi).1; omega))).trans (HT.out i hi).2⟩
              obtain ⟨nt, hwh, hpc⟩ := wkb_pure stay torn part bl1 (wsL k xs2) (fun e he => by
                obtain ⟨_, _, _, _, _, hlt⟩ := wsL_mem hk1 he
                exact (HBL1.out _ hlt).1) (fun e he => by
                obtain ⟨x, _, hl, _, hb, _⟩ := wsL_mem hk1 he
                rw [hb]; exact pad_len hl)
              have HWH : Hid (∀ n, n ≠ nt → wb (wkb stay torn part bl1 (wsL k xs2) n) (bl1 n) xs2 n k xs2.length = true) := fun n hn => whole_wb hk1 (hwh n hn)
              have HPC : Hid (∀ n, ∀ s, s < 8 → okS (wkb stay torn part bl1 (wsL k xs2) n) (bl1 n) xs2 n k s xs2.length = true) := fun n => pieces_ok hk1 (hpc n)
              clear hwh hpc hrow HT HOWN HN0 HM5
              generalize wkb stay torn part bl1 (wsL k xs2) = bl5 at *
              go_loopw [19, 20, 21, 22, 23, 24] (fun o n _ _ _ _ wr => ∃ q : Nat, q ≤ k ∧ n = .int .i64 q ∧ o = .int .i64 (odds (fun n => wb (bl5 n) (bl1 n) xs2 n k xs2.length) q : Nat) ∧ Hid (Gr w8 wr)) (fun _ n _ _ _ _ _ => k - (intOf n).toNat)
              case atStart => exact ⟨0, by omega, rfl, rfl, Gr.refl _⟩
              case round =>
                obtain ⟨q, hq2, rfl, rfl, HG8⟩ := hrel
                by_cases hqk2 : q < k
                · have HU := Lib.hid (HU5.out.more HG8.out)
                  go_wp2_with fail
                  have hc := read_is HI5.out q _ HU.out.dsk hqk2
                  rw [HU.out.d] at hc
                  refine hc.mono ?_
                  clear hc
                  rintro e w9 ⟨b9, hb9, hx9, rfl, hg9⟩
                  have HX9 := Lib.hid hx9
                  have HU9 := Lib.hid (HU.out.more hg9)
                  have HG9 : Hid (Gr w8 w9) := Gr.step hg9 HG8.out
                  clear hx9 hg9 hb9 HU HG8
                  go_wp2_with fail
                  have hc := stored_is HI5.out q _ HU9.out.dsk hqk2
                  rw [HU9.out.d] at hc
                  refine hc.mono ?_
                  clear hc
                  rintro e w10 ⟨b10, hb10, hx10, rfl, hg10⟩
                  have hbl5 := HU9.out.dsk.bln q (by rw [HI5.out.k]; exact hqk2)
                  rw [HI5.out.bl] at hbl5
                  have HL5 : Hid ((bl5 q).length = 256) := hbl5.1
                  have HS5 : Hid (Small (bl5 q)) := hbl5.2
                  have HX10 := Lib.hid hx10
                  have HX9' := Lib.hid (gr_cells HX9.out hg10)
                  have HG10 : Hid (Gr w8 w10) := Gr.step hg10 HG9.out
                  clear hx10 hg10 hb10 HU9 HG9 HX9 hbl5
                  go_wp2_with fail
                  refine (same_told HX9'.out HX10.out HS5.out HS5.out HL5.out HL5.out).mono ?_
                  rintro e w11 ⟨rfl, hg11⟩
                  rw [decide_eq_true rfl]
                  have HX11 := Lib.hid (gr_cells HX9'.out hg11)
                  have HG11 : Hid (Gr w8 w11) := Gr.step hg11 HG10.out
                  clear hg11 HX9' HX10 HG10
                  have hqg : q < gs.length := by have := HQ.out; omega
                  have hrq : w11.cell? ⟨gr, q, none⟩ = some (.slice (some ⟨gs[q], 0, none⟩) 256 256) := cell_gr HG11.out (HROW.out q hqg)
                  have HTQ := Lib.hid (gr_cells (HT8.out q hqg).2 HG11.out)
                  generalize gs[q] = gq at *
                  clear hqg
                  have b1 : (0 : Int) ≤ (q : Int) := by omega
                  have b2 : (q : Int) < (k : Int) := by omega
                  go_wp2_with fail
                  refine (same_told HX11.out HTQ.out HS5.out (HBL1.out q hqk2).2 HL5.out (HBL1.out q hqk2).1).mono ?_
                  rintro e w12 ⟨rfl, hg12⟩
                  have HX12 := Lib.hid (gr_cells HX11.out hg12)
                  have HTQ12 := Lib.hid (gr_cells HTQ.out hg12)
                  have HG12 : Hid (Gr w8 w12) := Gr.step hg12 HG11.out
                  have hrq12 := cell_gr hg12 hrq
                  have HLB : Hid ((bl1 q).length = 256) := (HBL1.out q hqk2).1
                  have HSB : Hid (Small (bl1 q)) := (HBL1.out q hqk2).2
                  have HPQ := Lib.hid (HPC.out q)
                  have HOD := Lib.hid (odds_succ (fun n => wb (bl5 n) (bl1 n) xs2 n k xs2.length) q)
                  have HOL : (odds (fun n => wb (bl5 n) (bl1 n) xs2 n k xs2.length) q : Int) ≤ k := by
                    have := odds_le (fun n => wb (bl5 n) (bl1 n) xs2 n k xs2.length) q
                    omega
                  have HW0 := wb_zero (bl5 q) (bl1 q) xs2 q k
                  rw [← HW0]
                  clear hg12 HX11 HTQ HG11 hrq HW0
                  go_wp2_with fail
                  have HB12 : Hid (Below w.heap.size w w12) := HU5.out.gr.trans (HG12.out.mono (Nat.le_trans HU5.out.le HU5.out.gr.size))
                  try rw [decide_eq_true (show (q : Int) < (k : Int) by omega)]
                  go_loopw [23, 24] (fun v i wr => ∃ i2 : Nat, i2 ≤ n2 ∧ i = .int .i64 i2 ∧ v = .bool (wb (bl5 q) (bl1 q) xs2 q k i2) ∧ Hid (Gr w12 wr)) (fun _ i _ => n2 - (intOf i).toNat)
                  case atStart => exact ⟨0, by omega, rfl, rfl, Gr.refl _⟩
                  case round =>
                    obtain ⟨i2, hi2, rfl, rfl, HGI⟩ := hrel
                    by_cases hlt3 : i2 < n2
                    · have hjx : i2 < xs2.length := by have := HN2.out; omega
                      have hBI : Below w.heap.size w wr := HB12.out.trans (HGI.out.mono (Nat.le_trans (Nat.le_refl _) HB12.out.size))
                      have hD1 := H2.out.below hBI (Nat.le_refl _)
                      obtain ⟨bd, od, rfl, hbB, q0, q1, q2, q3, q4, q5⟩ := hD1.cell (i := i2) hjx
                      have HOK := Lib.hid (hD1.ok xs2[i2] (List.getElem_mem _))
                      have HSC := Lib.hid (wb_succ (bl5 q) (bl1 q) xs2 q k i2 hjx)
                      clear hD1 q0 q3 q4 q5
                      generalize xs2[i2] = e at *
                      clear hjx
                      unfold Sl.v at q2
                      have b3 : (0 : Int) ≤ (i2 : Int) := by omega
                      have b4 : (i2 : Int) < (n2 : Int) := by omega
                      generalize wb (bl5 q) (bl1 q) xs2 q k i2 = ww at *
                      cases ww with
                      | true =>
                        go_wp2_with fail
                        go_roundw
                        case rel => exact ⟨i2 + 1, by omega, by go_num, by rw [HSC.out]; rfl, HGI.out⟩
                        case measure => simp [intOf]; omega
                      | false =>
                        go_wp2_with fail
                        refine (pick_any e.n k wr HB.out.2).mono ?_
                        rintro r wr ⟨rfl, rfl⟩
                        by_cases hp : pick e.n k = (q : Int)
                        · have hpb : (pick e.n k == (q : Int)) = true := by simpa using hp
                          have HPQ2 := Lib.hid hp
                          clear hp
                          go_wp2_with fail
                          refine (padded_ok e.s.a e.s.n e.s.c e.b w.heap.size wr HOK.out.bs (by rw [HOK.out.bs.1]; exact HOK.out.len)).mono ?_
                          rintro r wp ⟨hgp, hcase⟩
                          have HGP : Hid (Gr w12 wp) := Gr.step hgp HGI.out
                          clear hgp
                          rcases hcase with ⟨hle, bp, hbp, rfl, hxp⟩ | ⟨hgt, rfl⟩
                          · have hel : e.b.length ≤ 256 := by have := HOK.out.bs.1; omega
                            have HNX : Hid (wb (bl5 q) (bl1 q) xs2 q k (i2 + 1) = decide (bl5 q = pad e.b)) := by
                              show _ = _
                              rw [HSC.out]
                              unfold hitW
                              rw [decide_eq_true hel, decide_eq_true HPQ2.out]
                              simp
                            go_wp2_with fail
                            refine (same_told (gr_cells HX12.out HGP.out) hxp HS5.out (small_pad HOK.out.bs.2.1) HL5.out (pad_len hel)).mono ?_
                            rintro r wq ⟨rfl, hgq⟩
                            have HGQ : Hid (Gr w12 wq) := Gr.step hgq HGP.out
                            clear hgq hxp
                            go_wp2_with fail
                            go_roundw
                            case rel => exact ⟨i2 + 1, by omega, by go_num, by rw [HNX.out], HGQ.out⟩
                            case measure => simp [intOf]; omega
                          · have HNX : Hid (wb (bl5 q) (bl1 q) xs2 q k (i2 + 1) = false) := by
                              show _ = _
                              rw [HSC.out]
                              unfold hitW
                              rw [decide_eq_false (show ¬ e.b.length ≤ 256 by have := HOK.out.bs.1; omega)]
                              simp
                            go_wp2_with fail
                            refine (same_len (some ⟨b9, 0, none⟩) none 256 0 256 0 wp (by omega)).mono ?_
                            rintro r wq ⟨rfl, rfl⟩
                            go_wp2_with fail
                            go_roundw
                            case rel => exact ⟨i2 + 1, by omega, by go_num, by rw [HNX.out], HGP.out⟩
                            case measure => simp [intOf]; omega
                        · have hpb : (pick e.n k == (q : Int)) = false := by simpa using hp
                          have HNX : Hid (wb (bl5 q) (bl1 q) xs2 q k (i2 + 1) = false) := by
                            show _ = _
                            rw [HSC.out]
                            unfold hitW
                            rw [decide_eq_false hp]
                            simp
                          clear hp
                          go_wp2_with fail
                          go_roundw
                          case rel => exact ⟨i2 + 1, by omega, by go_num, by rw [HNX.out], HGI.out⟩
                          case measure => simp [intOf]; omega
                    · obtain rfl : n2 = i2 := by omega
                      have hw2 : wb (bl5 q) (bl1 q) xs2 q k n2 = wb (bl5 q) (bl1 q) xs2 q k xs2.length := by rw [← HN2.out]
                      rw [hw2]
                      clear hw2
                      have hod : odds (fun n => wb (bl5 n) (bl1 n) xs2 n k xs2.length) (q + 1) = odds (fun n => wb (bl5 n) (bl1 n) xs2 n k xs2.length) q + if wb (bl5 q) (bl1 q) xs2 q k xs2.length = true then 0 else 1 := HOD.out
                      clear HOD
                      have HOD' := Lib.hid hod
                      clear hod
                      generalize odds (fun n => wb (bl5 n) (bl1 n) xs2 n k xs2.length) q = oq at *
                      generalize wb (bl5 q) (bl1 q) xs2 q k xs2.length = fv at *
                      cases fv with
                      | true =>
                        have hrqi := cell_gr HGI.out hrq12
                        have hBI : Below w.heap.size w wr := HB12.out.trans (HGI.out.mono HB12.out.size)
                        have HDI := Lib.hid ((H2.out.below hBI (Nat.le_refl _)).more hBI.size)
                        clear hrq12 hBI
                        go_wp2_with fail
                        refine (pieced_ok b9 gq 93 93 (bl5 q) (bl1 q) A2 n2 c2 xs2 q k wr (gr_cells HX12.out HGI.out) (gr_cells HTQ12.out HGI.out) HS5.out HSB.out HL5.out HLB.out HDI.out HB.out HPQ.out).mono ?_
                        rintro r wz ⟨rfl, hgz⟩
                        have HGZ : Hid (Gr w8 wz) := Gr.step hgz (Gr.step HGI.out HG12.out)
                        clear hgz
                        go_wp2_with fail
                        go_roundw
                        case rel => exact ⟨q + 1, by omega, by go_num, by rw [HOD'.out]; rfl, HGZ.out⟩
                        case measure => simp [intOf]; omega
                      | false =>
                        have hrqi := cell_gr HGI.out hrq12
                        have hBI : Below w.heap.size w wr := HB12.out.trans (HGI.out.mono HB12.out.size)
                        have HDI := Lib.hid ((H2.out.below hBI (Nat.le_refl _)).more hBI.size)
                        clear hrq12 hBI
                        go_wp2_with fail
                        refine (pieced_ok b9 gq 93 93 (bl5 q) (bl1 q) A2 n2 c2 xs2 q k wr (gr_cells HX12.out HGI.out) (gr_cells HTQ12.out HGI.out) HS5.out HSB.out HL5.out HLB.out HDI.out HB.out HPQ.out).mono ?_
                        rintro r wz ⟨rfl, hgz⟩
                        have HGZ : Hid (Gr w8 wz) := Gr.step hgz (Gr.step HGI.out HG12.out)
                        clear hgz
                        go_wp2_with fail
                        go_roundw
                        case rel => exact ⟨q + 1, by omega, by go_num, by rw [HOD'.out]; go_num, HGZ.out⟩
                        case measure => simp [intOf]; omega
                · obtain rfl : k = q := by omega
                  have hle1 : (odds (fun n => wb (bl5 n) (bl1 n) xs2 n k xs2.length) k : Int) ≤ 1 := by
                    have h := odds_one (f := fun n => wb (bl5 n) (bl1 n) xs2 n k xs2.length) HWH.out k
                    split at h <;> omega
                  have HGF : Hid (Gr w wr) := HU5.out.gr.trans (HG8.out.mono HU5.out.gr.size)
                  generalize odds (fun n => wb (bl5 n) (bl1 n) xs2 n k xs2.length) k = oq at *
                  go_wp2_with fail
                  go_ret
                  exact ⟨by simp, HGF.out⟩
theorem devsynced_any (blocks stay torn part : Int) (A1 A2 : Option Addr) (n1 c1 n2 c2 : Nat) (xs1 xs2 : List Deed) (w : World) (h1 : Ds w w.heap.size A1 n1 xs1) (h2 : Ds w w.heap.size A2 n2 xs2) (hb : i64 blocks) :
    Calls Try.prog 7 #[.int .i64 blocks, .slice A1 n1 c1, .slice A2 n2 c2, .int .i64 stay, .int .i64 torn, .int .i64 part] w fun r w' => r = .returned (.bool true) ∧ Gr w w' := by
  by_cases h : blocks < 1 ∨ 40 < blocks ∨ 60 < n1 + n2 ∨ greatB blocks xs1 = true ∨ greatB blocks xs2 = true
  · exact synced_out blocks stay torn part A1 A2 n1 c1 n2 c2 xs1 xs2 w h1 h2 hb h
  · obtain ⟨k, rfl⟩ : ∃ k : Nat, blocks = (k : Int) := ⟨blocks.toNat, by omega⟩
    exact synced_in k stay torn part A1 A2 n1 c1 n2 c2 xs1 xs2 w h1 h2 (by omega) (by omega) (by omega)
      (by cases hg : greatB k xs1 with | true => exact absurd (.inr (.inr (.inr (.inl hg)))) h | false => rfl)
      (by cases hg : greatB k xs2 with | true => exact absurd (.inr (.inr (.inr (.inr hg)))) h | false => rfl)
end Go.Proofs.Ytkdphgcbecldbaa
