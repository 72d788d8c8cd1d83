/- Texts of the proof, one behind the other: DevBB, DevCC, DevDD, RefA, RefB. -/
import Derived.Test.YtkdphgcbecldbaaJk
import Derived.Test.YtkdphgcbecldbaaJj
/- The disk's deeds, as pure functions; what a caller needs of them. -/
namespace Go.Proofs.Ytkdphgcbecldbaa
open Go.RowKit
theorem over_all {p b : List Nat} (hp : p.length = 256) (hb : b.length = 256) : over (p.take (32 * 8)) b = p := by
  unfold over
  rw [List.take_of_length_le (by omega), List.drop_of_length_le (by omega), List.append_nil]
def stb (bl : Nat → List Nat) (es : List (Nat × List Nat)) : Nat → List Nat := es.foldl (fun b e => upd b e.1 e.2) bl
def sth (hu : Nat → Bool) (es : List (Nat × List Nat)) : Nat → Bool := es.foldl (fun h e => upd h e.1 false) hu
theorem upd_len {bl : Nat → List Nat} {k n : Nat} {l : List Nat} (hb : ∀ i, i < k → (bl i).length = 256) (hl : l.length = 256) : ∀ i, i < k → (upd bl n l i).length = 256 := by
  intro i hi
  by_cases h : i = n
  · subst h; rw [upd_same]; exact hl
  · rw [upd_other _ _ h]; exact hb i hi
theorem stAll_eq : ∀ (es : List (Nat × List Nat)) (D : Dk), (∀ i, i < D.k → (D.bl i).length = 256) → (∀ e, e ∈ es → e.1 < D.k ∧ e.2.length = 256) → (D.stAll es).bl = stb D.bl es ∧ (D.stAll es).hu = sth D.hu es
  | [], _, _, _ => ⟨rfl, rfl⟩
  | e :: r, D, hb, he => by
    obtain ⟨h1, h2⟩ := he e (List.mem_cons_self ..)
    have hbl : (D.st e.1 e.2 8).bl = upd D.bl e.1 e.2 := by unfold Dk.st; simp only; rw [over_all h2 (hb _ h1)]
    have hhu : (D.st e.1 e.2 8).hu = upd D.hu e.1 false := by unfold Dk.st; simp only [if_true]
    have := stAll_eq r (D.st e.1 e.2 8) (by rw [hbl]; exact upd_len hb h2) (fun e' he' => he e' (List.mem_cons_of_mem _ he'))
    rw [hbl, hhu] at this
    exact this
/-- what a caller keeps of a disk -/
structure Is (D : Dk) (k : Nat) (dn : Bool) (bl : Nat → List Nat) (hu : Nat → Bool) (ws : List (Nat × List Nat)) : Prop where
  k : D.k = k
  dn : D.dn = dn
  ar : D.ar = 0
  bl : D.bl = bl
  hu : D.hu = hu
  ws : D.ws = ws
theorem new_is (k : Nat) (w : World) (h1 : 1 ≤ k) (h2 : k ≤ 4096) : Calls Try.prog 25 #[.int .i64 k] w fun r w' => ∃ d D, r = .returned (.tuple #[.pointer (some ⟨d, 0, none⟩), .int .i64 0]) ∧ D.d = d ∧ Gr w w' ∧ Dsk w' D ∧ (∀ b, D.fp b → w.heap.size ≤ b) ∧ Is D k false (fun _ => Z 256) (fun _ => false) [] := by
  refine (new_yes k w h1 h2).mono ?_
  rintro r w' ⟨d, bb, hb, rfl, hg, hd, g1, g2, g3⟩
  refine ⟨d, _, rfl, rfl, hg, hd, ?_, ⟨rfl, rfl, rfl, rfl, rfl, rfl⟩⟩
  rintro b (rfl | rfl | rfl | h)
  · exact g3
  · exact g1
  · exact g2
  · simp [Dk.fresh, Value.ownBlock] at h
theorem Mv.kp {w w' w'' : World} {D D' : Dk} {B : Nat} (h : Mv w' D w'' D') (hB : ∀ b, D.fp b → B ≤ b) (hle : B ≤ w'.heap.size) (hg : Below B w w') : Below B w w'' ∧ (∀ b, D'.fp b → B ≤ b) := by
  refine ⟨hg.trans (h.1.below (fun i hi => hB i hi) hle), fun b hb => ?_⟩
  rcases h.2.2.1 b hb with h1 | h1
  · exact hB b h1
  · omega
theorem Mv.d {w w' : World} {D D' : Dk} (h : Mv w D w' D') : D'.d = D.d := congrArg Prod.fst h.2.2.2
theorem write_is {D : Dk} {k : Nat} {bl : Nat → List Nat} {hu : Nat → Bool} {ws : List (Nat × List Nat)} (hI : Is D k false bl hu ws) (n : Nat) (A : Option Addr) (len c : Nat) (l : List Nat) (B : Nat) (w : World) (h : Dsk w D) (hb : Bs w B ⟨A, len, c⟩ l) (hB : B ≤ w.heap.size) (hf : 0 < len → ∀ b o, A = some ⟨b, o, none⟩ → ¬ D.fp b) (hn : n < k) (hl : len ≤ 256) (hws : ws.length ≤ 1000000) :
    Calls Try.prog 26 #[.pointer (some ⟨D.d, 0, none⟩), .int .i64 n, .slice A len c] w fun r w' => r = .returned (.int .i64 0) ∧ ∃ D', Mv w D w' D' ∧ Is D' k false bl hu (ws ++ [(n, pad l)]) := by
  refine (write_ok D n A len c l B w h hb hB hf hI.dn (by rw [hI.k]; exact hn) hl (by rw [hI.ar]; omega) (by rw [hI.ws]; exact hws)).mono ?_
  rintro r w' ⟨rfl, v, hm⟩
  refine ⟨rfl, _, hm, ⟨hI.k, hI.dn, ?_, hI.bl, hI.hu, by show D.ws ++ _ = _; rw [hI.ws]⟩⟩
  show max (D.ar - 1) 0 = 0
  rw [hI.ar]; rfl
theorem long_is {D : Dk} {k : Nat} {bl : Nat → List Nat} {hu : Nat → Bool} {ws : List (Nat × List Nat)} (hI : Is D k false bl hu ws) (n : Nat) (A : Option Addr) (len c : Nat) (w : World) (h : Dsk w D) (hn : n < k) (hl : 256 < len) :
    Calls Try.prog 26 #[.pointer (some ⟨D.d, 0, none⟩), .int .i64 n, .slice A len c] w fun r w' => r = .returned (.int .i64 2) ∧ ∃ D', Mv w D w' D' ∧ Is D' k false bl hu ws := by
  refine (write_long D n A len c w h hI.dn (by omega) (by rw [hI.k]; omega) hl).mono ?_
  rintro r w' ⟨rfl, hm⟩
  exact ⟨rfl, _, hm, hI⟩
theorem sync_is {D : Dk} {k : Nat} {bl : Nat → List Nat} {hu : Nat → Bool} {ws : List (Nat × List Nat)} (hI : Is D k false bl hu ws) (w : World) (h : Dsk w D) (hws : ws.length ≤ 1000000) :
    Calls Try.prog 27 #[.pointer (some ⟨D.d, 0, none⟩)] w fun r w' => r = .returned (.int .i64 0) ∧ ∃ D', Mv w D w' D' ∧ Is D' k false (stb bl ws) (sth hu ws) [] := by
  refine (sync_ok D w h hI.dn (by rw [hI.ar]; omega) (by rw [hI.ws]; exact hws)).mono ?_
  rintro r w' ⟨rfl, hm⟩
  refine ⟨rfl, _, hm, ?_⟩
  obtain ⟨s1, s2, s3, s4, s5, s6, s7, s8⟩ := stAll_same D.ws D.turn
  obtain ⟨e1, e2⟩ := stAll_eq D.ws D.turn (fun i hi => (h.bln i hi).1) (fun e he => ⟨(h.wsn e he).1, (h.wsn e he).2.1⟩)
  refine ⟨s2.trans hI.k, s6.trans hI.dn, s5.trans ?_, e1.trans ?_, e2.trans ?_, rfl⟩
  · show max (D.ar - 1) 0 = 0
    rw [hI.ar]; rfl
  · show stb D.bl D.ws = _
    rw [hI.bl, hI.ws]
  · show sth D.hu D.ws = _
    rw [hI.hu, hI.ws]
theorem crash_is {D : Dk} {k : Nat} {bl : Nat → List Nat} {hu : Nat → Bool} {ws : List (Nat × List Nat)} (hI : Is D k false bl hu ws) (w : World) (h : Dsk w D) :
    Calls Try.prog 30 #[.pointer (some ⟨D.d, 0, none⟩)] w fun r w' => r = .returned (.int .i64 0) ∧ ∃ D', Mv w D w' D' ∧ Is D' k true bl hu ws := by
  refine (crash_ok D w h hI.dn).mono ?_
  rintro r w' ⟨rfl, hm⟩
  exact ⟨rfl, _, hm, ⟨hI.k, rfl, rfl, hI.bl, hI.hu, hI.ws⟩⟩
/-- the blocks as they are woken -/
def wkb (stay torn part : Int) (bl : Nat → List Nat) (es : List (Nat × List Nat)) : Nat → List Nat :=
  es.zipIdx.foldl (fun b p => match wkn stay torn part p.2 with | some m => upd b p.1.1 (over (p.1.2.take (32 * m)) (b p.1.1)) | none => b) bl
theorem wkAll_bl (D : Dk) (stay torn part : Int) (es : List (Nat × List Nat)) : (D.wkAll stay torn part es).bl = wkb stay torn part D.bl es := by
  unfold Dk.wkAll wkb
  generalize es.zipIdx = ps
  induction ps generalizing D with
  | nil => rfl
  | cons p r ih =>
    rw [List.foldl_cons, List.foldl_cons, ih]
    congr 1
    unfold Dk.wk1
    cases wkn stay torn part p.2 <;> rfl
theorem wake_is {D : Dk} {k : Nat} {bl : Nat → List Nat} {hu : Nat → Bool} {ws : List (Nat × List Nat)} (hI : Is D k true bl hu ws) (a b c : Int) (w : World) (h : Dsk w D) (hws : ws.length ≤ 1000000) :
    Calls Try.prog 31 #[.pointer (some ⟨D.d, 0, none⟩), .int .i64 a, .int .i64 b, .int .i64 c] w fun r w' => r = .returned (.int .i64 0) ∧ ∃ D' hu', Mv w D w' D' ∧ Is D' k false (wkb a b c bl ws) hu' [] := by
  refine (wake_ok D a b c w h hI.dn (by rw [hI.ws]; exact hws)).mono ?_
  rintro r w' ⟨rfl, hm⟩
  refine ⟨rfl, _, _, hm, ⟨(wkAll_same D a b c D.ws).2.1.trans hI.k, rfl, rfl, ?_, rfl, rfl⟩⟩
  show (D.wkAll a b c D.ws).bl = _
  rw [wkAll_bl, hI.bl, hI.ws]
theorem read_is {D : Dk} {k : Nat} {bl : Nat → List Nat} {hu : Nat → Bool} (hI : Is D k false bl hu []) (n : Nat) (w : World) (h : Dsk w D) (hn : n < k) :
    Calls Try.prog 32 #[.pointer (some ⟨D.d, 0, none⟩), .int .i64 n] w fun r w' => ∃ b, w.heap.size ≤ b ∧ w'.heap[b]? = some (.cells (bvs (bl n)).toArray 93 (0, 0)) ∧ r = .returned (.tuple #[.slice (some ⟨b, 0, none⟩) 256 256, .int .i64 0]) ∧ Gr w w' := by
  have h1 := read_ok D n w h hI.dn (by rw [hI.k]; exact hn) (by rw [hI.ws]; exact Nat.zero_le _)
  rw [hI.ws, hI.bl] at h1
  exact h1
theorem stat_is {D : Dk} {k : Nat} {dn : Bool} {bl : Nat → List Nat} {hu : Nat → Bool} {ws : List (Nat × List Nat)} (hI : Is D k dn bl hu ws) (w : World) (h : Dsk w D) :
    Calls Try.prog 28 #[.pointer (some ⟨D.d, 0, none⟩)] w fun r w' => ∃ t c, r = .returned (.agg #[.int .i64 k, .int .i64 ws.length, .int .i64 (((List.range k).filter hu).length : Nat), .int .i64 t, .int .i64 c, .bool dn]) ∧ Gr w w' := by
  refine (stat_ok D w h).mono ?_
  rintro r w' ⟨rfl, hg⟩
  refine ⟨D.tu, D.cr, ?_, hg⟩
  unfold Dk.stat Dk.hurts
  rw [hI.k, hI.ws, hI.hu, hI.dn]
theorem stored_is {D : Dk} {k : Nat} {dn : Bool} {bl : Nat → List Nat} {hu : Nat → Bool} {ws : List (Nat × List Nat)} (hI : Is D k dn bl hu ws) (n : Nat) (w : World) (h : Dsk w D) (hn : n < k) :
    Calls Try.prog 29 #[.pointer (some ⟨D.d, 0, none⟩), .int .i64 n] w fun r w' => ∃ b, w.heap.size ≤ b ∧ w'.heap[b]? = some (.cells (bvs (bl n)).toArray 93 (0, 0)) ∧ r = .returned (.slice (some ⟨b, 0, none⟩) 256 256) ∧ Gr w w' := by
  refine (stored_ok D n w h (by rw [hI.k]; exact hn)).mono ?_
  rintro r w' ⟨rfl, rfl⟩
  rw [hI.bl]
  exact ⟨_, Nat.le_refl _, heap_alloc_new w _, rfl, Gr.at_alloc w _⟩
/-- the disk at d, all of it above B; below B all is as it was -/
structure Up (B : Nat) (w0 w : World) (d : Nat) (D : Dk) : Prop where
  dsk : Dsk w D
  d : D.d = d
  fp : ∀ b, D.fp b → B ≤ b
  gr : Below B w0 w
  le : B ≤ w0.heap.size
theorem Up.mv {B : Nat} {w0 w w' : World} {d : Nat} {D D' : Dk} (h : Up B w0 w d D) (hm : Mv w D w' D') : Up B w0 w' d D' := by
  obtain ⟨g, f⟩ := hm.kp h.fp (Nat.le_trans h.le h.gr.size) h.gr
  exact ⟨hm.2.1, hm.d.trans h.d, f, g, h.le⟩
theorem Up.more {B : Nat} {w0 w w' : World} {d : Nat} {D : Dk} (h : Up B w0 w d D) (hg : Gr w w') : Up B w0 w' d D :=
  ⟨h.dsk.gr hg, h.d, h.fp, h.gr.trans (hg.mono (Nat.le_trans h.le h.gr.size)), h.le⟩
end Go.Proofs.Ytkdphgcbecldbaa
/- The law's example: awake (23). -/
namespace Go.Proofs.Ytkdphgcbecldbaa
open Go.RowKit
theorem wake_pure (n : Nat) (hn : n < 2) : wkb n (-1) 0 (stb (fun _ => Z 256) [(0, pad [1])]) [(0, pad [2])] 0 = pad [1 + n] := by
  have h0 : n = 0 ∨ n = 1 := by omega
  rcases h0 with rfl | rfl
  · rfl
  · show over ((pad [2]).take (32 * 8)) (pad [1]) = pad [2]
    exact over_all (pad_len (by decide)) (pad_len (by decide))
theorem awake_one {w1 : World} {x : Nat} (hx : x < 256) : Bs (w1.alloc (.cells #[.int .u8 x] 5)) (w1.alloc (.cells #[.int .u8 x] 5)).heap.size ⟨some ⟨w1.heap.size, 0, none⟩, 1, 1⟩ [x] :=
  bs_blk (l := [x]) (heap_alloc_new w1 _) (fun y hy => by rw [List.mem_singleton.1 hy]; exact hx) (by show 1 ≤ 1000000; decide)
set_option maxRecDepth 100000 in
set_option maxHeartbeats 2000000 in
theorem awake_ok (w : World) : Calls Try.prog 23 #[] w fun r w' => r = .returned (.bool true) ∧ Gr w w' := by
  go_enter Try.func23, Try.ntmps23
  go_wp2_with fail
  go_loopw [1] (fun i wr => ∃ n : Nat, n ≤ 2 ∧ i = .int .i64 n ∧ Gr w wr) (fun i _ => 2 - (intOf i).toNat)
  case atStart => exact ⟨0, by omega, rfl, Gr.refl _⟩
  case round =>
    obtain ⟨n, hn, rfl, hg⟩ := hrel
    have HG := Lib.hid hg
    clear hg
    by_cases hlt : n < 2
    · go_wp2_with fail
      refine (new_is 2 wr (by decide) (by decide)).mono ?_
      rintro e w1 ⟨d, D, rfl, hdd, hg1, hd1, hf1, hI1⟩
      have HI1 := Lib.hid hI1
      have HU1 : Hid (Up wr.heap.size wr w1 d D) := ⟨hd1, hdd, hf1, hg1, Nat.le_refl _⟩
      clear hd1 hI1 hg1 hf1 hdd
      go_wp2_with fail
      have HU2 := Lib.hid (HU1.out.more (Gr.at_alloc w1 (.cells #[.int .u8 (1 : Nat)] 5)))
      have hc := write_is HI1.out 0 (some ⟨w1.heap.size, 0, none⟩) 1 1 [1] _ _ HU2.out.dsk (awake_one (by omega)) (Nat.le_refl _) (fun _ b o e hf => by injection e with e; injection e with e; subst e; exact absurd (HU1.out.dsk.fp_lt hf) (Nat.lt_irrefl _)) (by omega) (by omega) (by decide)
      rw [HU2.out.d] at hc
      refine hc.mono ?_
      clear hc
      rintro e w2 ⟨rfl, D2, hm, hI2⟩
      have HI2 := Lib.hid hI2
      have HU3 := Lib.hid (HU2.out.mv hm)
      clear hm hI2 HU1 HU2 HI1
      go_wp2_with fail
      have hc := sync_is HI2.out _ HU3.out.dsk (by decide)
      rw [HU3.out.d] at hc
      refine hc.mono ?_
      clear hc
      rintro e w3 ⟨rfl, D3, hm, hI3⟩
      have HI3 := Lib.hid hI3
      have HU4 := Lib.hid (HU3.out.mv hm)
      clear hm hI3 HU3 HI2
      go_wp2_with fail
      have HU5 := Lib.hid (HU4.out.more (Gr.at_alloc w3 (.cells #[.int .u8 (2 : Nat)] 5)))
      have hc := write_is HI3.out 0 (some ⟨w3.heap.size, 0, none⟩) 1 1 [2] _ _ HU5.out.dsk (awake_one (by omega)) (Nat.le_refl _) (fun _ b o e hf => by injection e with e; injection e with e; subst e; exact absurd (HU4.out.dsk.fp_lt hf) (Nat.lt_irrefl _)) (by omega) (by omega) (by decide)
      rw [HU5.out.d] at hc
      refine hc.mono ?_
      clear hc
      rintro e w4 ⟨rfl, D4, hm, hI4⟩
      have HI4 := Lib.hid hI4
      have HU6 := Lib.hid (HU5.out.mv hm)
      clear hm hI4 HU5 HI3 HU4
      go_wp2_with fail
      have hc := crash_is HI4.out _ HU6.out.dsk
      rw [HU6.out.d] at hc
      refine hc.mono ?_
      clear hc
      rintro e w5 ⟨rfl, D5, hm, hI5⟩
      have HI5 := Lib.hid hI5
      have HU7 := Lib.hid (HU6.out.mv hm)
      clear hm hI5 HU6 HI4
      go_wp2_with fail
      have hc := wake_is HI5.out n (-1) 0 _ HU7.out.dsk (by decide)
      rw [HU7.out.d] at hc
      refine hc.mono ?_
      clear hc
      rintro e w6 ⟨rfl, D6, hu6, hm, hI6⟩
      have HI6 := Lib.hid hI6
      have HU8 := Lib.hid (HU7.out.mv hm)
      clear hm hI6 HU7 HI5
      go_wp2_with fail
      have hc := read_is HI6.out 0 _ HU8.out.dsk (by omega)
      rw [HU8.out.d] at hc
      refine hc.mono ?_
      clear hc
      rintro e w7 ⟨b, hb, hx, rfl, hg7⟩
      have hpure' : wkb n (-1) 0 (stb (fun _ => Z 256) ([] ++ [(0, pad [1])])) ([] ++ [(0, pad [2])]) 0 = pad [1 + n] := wake_pure n hlt
      rw [hpure'] at hx
      have x0 : w7.cell? ⟨b, 0, none⟩ = some (.int .u8 ((1 + n : Nat) : Int)) := (cell_of_row _ _ _ _ _ _ hx).trans rfl
      have x1 : w7.cell? ⟨b, 1, none⟩ = some (.int .u8 0) := (cell_of_row _ _ _ _ _ _ hx).trans rfl
      have HU9 := Lib.hid (HU8.out.more hg7)
      clear hx hpure' hg7 hb
      have hw1 : IntKind.u8.wrap ((1 : Int) + n) = ((1 + n : Nat) : Int) := by rw [IntKind.wrap_u8]; omega
      go_wp2_with fail
      go_roundw
      case rel =>
        refine ⟨n + 1, by omega, by go_num, ?_⟩
        exact HG.out.trans (HU9.out.gr.mono HG.out.size)
      case measure => simp [intOf]; omega
    · obtain rfl : n = 2 := by omega
      go_wp2_with fail
      go_ret
      exact ⟨rfl, HG.out⟩
end Go.Proofs.Ytkdphgcbecldbaa
/- The disk: Rot and Wipe for a caller; hurts counted; blocks told. -/
namespace Go.Proofs.Ytkdphgcbecldbaa
open Go.RowKit
def rotV (l : List Nat) (bit : Int) (m : Nat) : List Nat := if 0 ≤ bit ∧ bit < 2048 then rotB l bit.toNat m else l
theorem rotV_len {l : List Nat} (hl : l.length = 256) (bit : Int) (m : Nat) : (rotV l bit m).length = 256 := by
  unfold rotV
  split
  · exact (rotF_len _ _ _ _).trans hl
  · exact hl
theorem rotV_small {l : List Nat} (hl : Small l) (bit : Int) (m : Nat) : Small (rotV l bit m) := by
  unfold rotV
  split
  · exact rotF_small _ _ _ _ hl
  · exact hl
theorem rotV_twice {l : List Nat} (hl : l.length = 256) (hs : Small l) (bit : Int) (m : Nat) : rotV (rotV l bit m) bit m = l := by
  unfold rotV
  split
  · exact rotB_twice hl hs _ _ (by omega)
  · rfl
theorem rotV_one {l : List Nat} (hl : l.length = 256) (bit : Int) (h0 : 0 ≤ bit) (h1 : bit < 2048) : rotV l bit 1 ≠ l := by
  unfold rotV
  rw [if_pos ⟨h0, h1⟩]
  exact rotB_one hl _ _ (by omega) rfl
variable {D : Dk} {k : Nat} {dn : Bool} {bl : Nat → List Nat} {hu : Nat → Bool} {ws : List (Nat × List Nat)}
theorem rot_is_same (hI : Is D k dn bl hu ws) (n : Nat) (bit : Int) (m : Nat) (w : World) (h : Dsk w D) (hn : n < k) (hm : m < 4294967296) (hr : rotV (bl n) bit m = bl n) :
    Calls Try.prog 35 #[.pointer (some ⟨D.d, 0, none⟩), .int .i64 n, .int .i64 bit, .int .u32 m] w fun r w' => r = .returned (.int .i64 2) ∧ ∃ D', Mv w D w' D' ∧ Is D' k dn bl hu ws := by
  unfold rotV at hr
  split at hr
  · have := rot_same D n bit.toNat m w h (by rw [hI.k]; exact hn) (by omega) hm (by rw [hI.bl]; exact hr)
    rw [Int.toNat_of_nonneg (by omega)] at this
    exact this.mono fun r w' ⟨h1, h2⟩ => ⟨h1, D, h2, hI⟩
  · exact (rot_far D n bit m w h (by omega) (by rw [hI.k]; omega) (by omega)).mono fun r w' ⟨h1, h2⟩ => ⟨h1, D, h2, hI⟩
theorem rot_is_hurt (hI : Is D k dn bl hu ws) (n : Nat) (bit : Int) (m : Nat) (w : World) (h : Dsk w D) (hn : n < k) (hm : m < 4294967296) (hr : rotV (bl n) bit m ≠ bl n) (hh : hu n = true) :
    Calls Try.prog 35 #[.pointer (some ⟨D.d, 0, none⟩), .int .i64 n, .int .i64 bit, .int .u32 m] w fun r w' => r = .returned (.int .i64 16) ∧ ∃ D', Mv w D w' D' ∧ Is D' k dn bl hu ws := by
  unfold rotV at hr
  split at hr
  · have := rot_hurt D n bit.toNat m w h (by rw [hI.k]; exact hn) (by omega) hm (by rw [hI.bl]; exact hr) (by rw [hI.hu]; exact hh)
    rw [Int.toNat_of_nonneg (by omega)] at this
    exact this.mono fun r w' ⟨h1, h2⟩ => ⟨h1, D, h2, hI⟩
  · exact absurd rfl hr
theorem rot_is_ok (hI : Is D k dn bl hu ws) (n : Nat) (bit : Int) (m : Nat) (w : World) (h : Dsk w D) (hn : n < k) (hm : m < 4294967296) (hr : rotV (bl n) bit m ≠ bl n) (hh : hu n = false) :
    Calls Try.prog 35 #[.pointer (some ⟨D.d, 0, none⟩), .int .i64 n, .int .i64 bit, .int .u32 m] w fun r w' => r = .returned (.int .i64 0) ∧ ∃ D', Mv w D w' D' ∧ Is D' k dn (upd bl n (rotV (bl n) bit m)) (upd hu n true) ws := by
  have hV : 0 ≤ bit ∧ bit < 2048 := by
    unfold rotV at hr
    split at hr
    · assumption
    · exact absurd rfl hr
  have e : rotV (bl n) bit m = rotB (bl n) bit.toNat m := by unfold rotV; rw [if_pos hV]
  rw [e] at hr ⊢
  have := rot_ok D n bit.toNat m w h (by rw [hI.k]; exact hn) (by omega) hm (by rw [hI.bl]; exact hr) (by rw [hI.hu]; exact hh)
  rw [Int.toNat_of_nonneg (by omega)] at this
  refine this.mono fun r w' ⟨h1, h2⟩ => ⟨h1, _, h2, ⟨hI.k, hI.dn, hI.ar, ?_, ?_, hI.ws⟩⟩
  · show upd D.bl n (rotB (D.bl n) _ _) = _
    rw [hI.bl]
  · show upd D.hu n true = _
    rw [hI.hu]
theorem wipe_is_same (hI : Is D k dn bl hu ws) (n : Nat) (w : World) (h : Dsk w D) (hn : n < k) (hr : Z 256 = bl n) :
    Calls Try.prog 36 #[.pointer (some ⟨D.d, 0, none⟩), .int .i64 n] w fun r w' => r = .returned (.int .i64 2) ∧ ∃ D', Mv w D w' D' ∧ Is D' k dn bl hu ws :=
  (wipe_same D n w h (by rw [hI.k]; exact hn) (by rw [hI.bl]; exact hr)).mono fun r w' ⟨h1, h2⟩ => ⟨h1, D, h2, hI⟩
theorem wipe_is_ok (hI : Is D k dn bl hu ws) (n : Nat) (w : World) (h : Dsk w D) (hn : n < k) (hr : Z 256 ≠ bl n) (hh : hu n = false) :
    Calls Try.prog 36 #[.pointer (some ⟨D.d, 0, none⟩), .int .i64 n] w fun r w' => r = .returned (.int .i64 0) ∧ ∃ D', Mv w D w' D' ∧ Is D' k dn (upd bl n (Z 256)) (upd hu n true) ws := by
  refine (wipe_ok D n w h (by rw [hI.k]; exact hn) (by rw [hI.bl]; exact hr) (by rw [hI.hu]; exact hh)).mono fun r w' ⟨h1, h2⟩ => ⟨h1, _, h2, ⟨hI.k, hI.dn, hI.ar, ?_, ?_, hI.ws⟩⟩
  · show upd D.bl n (Z 256) = _
    rw [hI.bl]
  · show upd D.hu n true = _
    rw [hI.hu]
theorem field50 (a b c d e : Int) (g : Bool) (w : World) : (Instr.field 50 (.agg #[.int .i64 a, .int .i64 b, .int .i64 c, .int .i64 d, .int .i64 e, .bool g]) 2).run Try.prog w = .ok (.int .i64 c) w := by
  unfold Instr.field
  simp [Sem.run_bind, go_sem, asAgg]
theorem count_none {hu : Nat → Bool} (h : ∀ i, hu i = false) (k : Nat) : ((List.range k).filter hu).length = 0 := by
  rw [List.length_eq_zero_iff, List.filter_eq_nil_iff]
  intro a _
  rw [h a]; decide
theorem count_one {hu : Nat → Bool} {n : Nat} (h1 : hu n = true) (h : ∀ i, i ≠ n → hu i = false) : ∀ k, n < k → ((List.range k).filter hu).length = 1
  | 0, hk => by omega
  | k + 1, hk => by
    rw [List.range_succ, List.filter_append, List.length_append]
    by_cases e : n = k
    · subst e
      rw [List.filter_cons_of_pos h1]
      have : ((List.range n).filter hu).length = 0 := by
        rw [List.length_eq_zero_iff, List.filter_eq_nil_iff]
        intro a ha
        rw [h a (by have := List.mem_range.1 ha; omega)]; decide
      rw [this]; rfl
    · rw [count_one h1 h k (by omega), List.filter_cons_of_neg (by rw [h k (fun e' => e e'.symm)]; decide)]; rfl
theorem pad_full {l : List Nat} (h : l.length = 256) : pad l = l := by
  unfold pad
  rw [h]
  exact List.append_nil _
/-- a told block reads as bytes -/
theorem bs_cellsT {w : World} {g : Nat} {t : TypeId} {l : List Nat} (h : w.heap[g]? = some (.cells (bvs l).toArray t (0, 0))) (hs : Small l) (hl : l.length ≤ 1000000) : Bs w w.heap.size ⟨some ⟨g, 0, none⟩, l.length, l.length⟩ l :=
  ⟨rfl, hs, Nat.le_refl _, by simp only; omega, fun _ => ⟨g, 0, rfl, (Array.getElem?_eq_some_iff.1 h).1, fun i hi => by
    rw [Nat.zero_add, cell_of_row _ _ _ _ _ _ h, List.getElem?_toArray]
    simp only at hi
    unfold bvs bv
    rw [List.getElem?_map, List.getElem?_eq_getElem hi, List.getD_eq_getElem?_getD, List.getElem?_eq_getElem hi]
    rfl⟩⟩
theorem made5 (n : Nat) : madeCells #[.int .u8 0] n = (bvs (Z n)).toArray := by
  apply Array.ext'
  apply List.ext_getElem?
  intro i
  unfold madeCells bvs Z
  rw [Array.toList_map, Array.toList_range, List.getElem?_map]
  simp [List.getElem?_replicate]
  by_cases h : i < n
  · simp [h, Nat.mod_one]
  · simp [h]
theorem make24 (n : Nat) (hn : n ≤ 100000) (w : World) : (Instr.makeSlice 24 (.int .i64 n) (.int .i64 n)).run Try.prog w = .ok (.slice (some ⟨w.heap.size, 0, none⟩) n n) (w.alloc (.cells (bvs (Z n)).toArray 5)) := by
  obtain ⟨i, hi, hz, hs, hby⟩ := info_parts info5
  have h := run_makeSlice (P := Try.prog) w 24 5 i _ Try.underlying24 hi hz .i64 .i64 n n (by omega) (by omega) (by rw [hs]; omega) (by rw [hby]; omega) (by omega)
  rw [hs, Int.toNat_natCast, Nat.mul_one] at h
  rw [← made5]
  exact h
theorem gr_drewN {w : World} (m : Nat) : Gr w (w.drewN m) := ⟨rfl, rfl, rfl, Nat.le_refl _, fun _ _ => rfl⟩
/-- two told blocks are compared -/
theorem same_told {g1 g2 : Nat} {t1 t2 : TypeId} {l1 l2 : List Nat} {w : World} (h1 : w.heap[g1]? = some (.cells (bvs l1).toArray t1 (0, 0))) (h2 : w.heap[g2]? = some (.cells (bvs l2).toArray t2 (0, 0)))
    (s1 : Small l1) (s2 : Small l2) (e1 : l1.length = 256) (e2 : l2.length = 256) :
    Calls Try.prog 22 #[.slice (some ⟨g1, 0, none⟩) 256 256, .slice (some ⟨g2, 0, none⟩) 256 256] w fun e w' => e = .returned (.bool (decide (l1 = l2))) ∧ Gr w w' := by
  have b1 := bs_cellsT h1 s1 (by omega)
  have b2 := bs_cellsT h2 s2 (by omega)
  rw [e1] at b1
  rw [e2] at b2
  refine (same_two _ _ 256 256 256 256 _ l1 l2 w b1 b2).mono ?_
  rintro e w' ⟨rfl, m, rfl⟩
  exact ⟨rfl, gr_drewN m⟩
/-- noughts told are compared to noughts made -/
theorem same_zz {g1 g2 : Nat} {l : List Nat} {ZX : Array Value} {w : World} (h1 : w.heap[g1]? = some (.cells (bvs l).toArray 93 (0, 0))) (h2 : w.heap[g2]? = some (.cells ZX 5 (0, 0))) (hz : (bvs (Z 256)).toArray = ZX) (hl : l = Z 256) :
    Calls Try.prog 22 #[.slice (some ⟨g1, 0, none⟩) 256 256, .slice (some ⟨g2, 0, none⟩) 256 256] w fun e w' => e = .returned (.bool true) ∧ Gr w w' := by
  subst hl
  rw [← hz] at h2
  have h := same_told h1 h2 (small_zero 256) (small_zero 256) (Z_len 256) (Z_len 256)
  rw [decide_eq_true rfl] at h
  exact h
theorem gr_cells {w w' : World} {b : Nat} {o : Obj} (h : w.heap[b]? = some o) (hg : Gr w w') : w'.heap[b]? = some o := (hg.block b (Array.getElem?_eq_some_iff.1 h).1).trans h
/-- a disk that has moved on, and is so -/
def Sx (w0 : World) (D0 : Dk) (k : Nat) (dn : Bool) (bl : Nat → List Nat) (hu : Nat → Bool) (ws : List (Nat × List Nat)) (w : World) : Prop := ∃ D, Mv w0 D0 w D ∧ Is D k dn bl hu ws
theorem Sx.gr {w0 w w' : World} {D0 : Dk} (h : Sx w0 D0 k dn bl hu ws w) (hg : Gr w w') : Sx w0 D0 k dn bl hu ws w' := by
  obtain ⟨D, h1, h2⟩ := h
  exact ⟨D, h1.trans (Mv.gr h1.2.1 hg), h2⟩
theorem sx_stored {w0 w : World} {D0 : Dk} {n d : Nat} (h : Sx w0 D0 k dn bl hu ws w) (hn : n < k) (hd : D0.d = d) :
    Calls Try.prog 29 #[.pointer (some ⟨d, 0, none⟩), .int .i64 n] w fun r w' => ∃ b, r = .returned (.slice (some ⟨b, 0, none⟩) 256 256) ∧ w'.heap[b]? = some (.cells (bvs (bl n)).toArray 93 (0, 0)) ∧ Gr w w' := by
  obtain ⟨D, h1, h2⟩ := h
  have hc := stored_is h2 n w h1.2.1 hn
  rw [h1.d, hd] at hc
  exact hc.mono fun r w' ⟨b, _, h3, h4, h5⟩ => ⟨b, h4, h3, h5⟩
theorem sx_wipe {w0 w : World} {D0 : Dk} {n d : Nat} (h : Sx w0 D0 k dn bl hu ws w) (hn : n < k) (hd : D0.d = d) (hz : Z 256 = bl n) :
    Calls Try.prog 36 #[.pointer (some ⟨d, 0, none⟩), .int .i64 n] w fun r w' => r = .returned (.int .i64 2) ∧ Sx w0 D0 k dn bl hu ws w' := by
  obtain ⟨D, h1, h2⟩ := h
  have hc := wipe_is_same h2 n w h1.2.1 hn hz
  rw [h1.d, hd] at hc
  exact hc.mono fun r w' ⟨h3, D', h4, h5⟩ => ⟨h3, D', h1.trans h4, h5⟩
theorem sx_rot {w0 w : World} {D0 : Dk} {n d : Nat} (h : Sx w0 D0 k dn bl hu ws w) (hn : n < k) (hd : D0.d = d) (hz : bl n = Z 256) (hh : hu n = true) :
    Calls Try.prog 35 #[.pointer (some ⟨d, 0, none⟩), .int .i64 n, .int .i64 9, .int .u32 1] w fun r w' => r = .returned (.int .i64 16) ∧ Sx w0 D0 k dn bl hu ws w' := by
  obtain ⟨D, h1, h2⟩ := h
  have hc := rot_is_hurt h2 n 9 1 w h1.2.1 hn (by omega) (by rw [hz]; exact rotV_one (Z_len 256) 9 (by omega) (by omega)) hh
  rw [h1.d, hd] at hc
  exact hc.mono fun r w' ⟨h3, D', h4, h5⟩ => ⟨h3, D', h1.trans h4, h5⟩
end Go.Proofs.Ytkdphgcbecldbaa
/- The document's disk as memory holds it. No program in sight. -/
namespace Go.Proofs.Ytkdphgcbecldbaa
open Go.RowKit
theorem setCell_at {w : World} {b j : Nat} {cs : Array Value} {t : TypeId} (h : w.heap[b]? = some (.cells cs t (0, 0))) (v : Value) : (w.setCell ⟨b, j, none⟩ v).heap[b]? = some (.cells (cs.setIfInBounds j v) t (0, 0)) := by
  simp [World.setCell, Array.getElem?_modify, h]
theorem setCell_off {w : World} {b b' j : Nat} (v : Value) (h : b' ≠ b) : (w.setCell ⟨b, j, none⟩ v).heap[b']? = w.heap[b']? := Below.heap_setCell w _ v b' (by simpa using h)
/-- a slice of a block's bytes -/
def RB (w : World) (v : Value) (l : List Nat) : Prop := ∃ g c cur, v = .slice (some ⟨g, 0, none⟩) 256 c ∧ 256 ≤ c ∧ c ≤ 9223372036854775807 ∧ w.heap[g]? = some (.cells cur 5 (0, 0)) ∧ cur.toList.take 256 = bvs l ∧ l.length = 256 ∧ Small l
theorem RB.keep {w w' : World} {v : Value} {l : List Nat} (h : RB w v l) (hk : ∀ g cur, v.ownBlock = some g → w.heap[g]? = some (.cells cur 5 (0, 0)) → w'.heap[g]? = w.heap[g]?) : RB w' v l := by
  obtain ⟨g, c, cur, e, h1, h2, h3, h4, h5, h6⟩ := h
  exact ⟨g, c, cur, e, h1, h2, (hk g cur (by rw [e]; rfl) h3).trans h3, h4, h5, h6⟩
theorem RB.bs {w : World} {v : Value} {l : List Nat} (h : RB w v l) : ∃ g c, v = .slice (some ⟨g, 0, none⟩) 256 c ∧ 256 ≤ c ∧ c ≤ 9223372036854775807 ∧ Bs w w.heap.size ⟨some ⟨g, 0, none⟩, 256, c⟩ l := by
  obtain ⟨g, c, cur, e, h1, h2, h3, h4, h5, h6⟩ := h
  refine ⟨g, c, e, h1, h2, h5.symm, h6, h1, by simp only; omega, fun _ => ⟨g, 0, rfl, (Array.getElem?_eq_some_iff.1 h3).1, fun i hi => ?_⟩⟩
  simp only at hi
  rw [Nat.zero_add, cell_of_row _ _ _ _ _ _ h3]
  have : (bvs l)[i]? = some (bv l i) := by
    unfold bvs bv
    rw [List.getElem?_map, List.getElem?_eq_getElem (by omega), List.getD_eq_getElem?_getD, List.getElem?_eq_getElem (by omega)]
    rfl
  rw [← h4, List.getElem?_take, if_pos hi, Array.getElem?_toList] at this
  exact this
/-- the document's disk: where its parts lie, what they hold -/
structure Rk where
  r : Nat
  cb : Nat
  cc : Nat
  base : Nat
  k : Nat
  tu : Int
  cr : Int
  ar : Int
  dn : Bool
  vl : Nat → Value
  bl : Nat → List Nat
  hu : Nat → Bool
  wv : Value
  ws : List (Nat × List Nat)
  wl : List Value
def Rk.row (R : Rk) : Array Value := #[.slice (some ⟨R.cb, 0, none⟩) R.k R.cc, R.wv, .int .i64 R.ar, .int .i64 R.tu, .int .i64 R.cr, .bool R.dn]
def rrow (ws : List (Nat × List Nat)) (wl : List Value) : List Value := ((ws.zip wl).map fun p => [Value.int .i64 (p.1.1 : Int), p.2]).flatten
def Rk.fp (R : Rk) (b : Nat) : Prop := b = R.r ∨ b = R.cb ∨ R.wv.ownBlock = some b
def Rk.all (R : Rk) (b : Nat) : Prop := R.fp b ∨ (∃ i, i < R.k ∧ (R.vl i).ownBlock = some b) ∨ ∃ v, v ∈ R.wl ∧ v.ownBlock = some b
structure Rsk (w : World) (R : Rk) : Prop where
  kpos : 1 ≤ R.k
  kle : R.k ≤ 4096
  row : w.heap[R.r]? = some (.cells R.row 103 (0, 0))
  cells : ∃ cur, w.heap[R.cb]? = some (.cells cur 105 (0, 0)) ∧ R.k * 2 ≤ cur.size ∧ ∀ i, i < R.k → cur[i * 2]? = some (R.vl i) ∧ cur[i * 2 + 1]? = some (.bool (R.hu i))
  blk : ∀ i, i < R.k → RB w (R.vl i) (R.bl i)
  own : w.ownsRow R.base 130 2 R.wv R.ws.length (rrow R.ws R.wl)
  wlen : R.wl.length = R.ws.length
  wsn : ∀ i (h : i < R.ws.length), R.ws[i].1 < R.k ∧ RB w (R.wl[i]'(by rw [wlen]; exact h)) R.ws[i].2
  o1 : R.r < R.base
  o2 : R.cb < R.base
  o3 : R.base ≤ w.heap.size
  arm : 0 ≤ R.ar ∧ R.ar ≤ 9223372036854775807
theorem Rsk.own_ge {w : World} {R : Rk} (h : Rsk w R) {b : Nat} (hb : R.wv.ownBlock = some b) : R.base ≤ b ∧ ∃ cur, w.heap[b]? = some (.cells cur 130 (0, 0)) := by
  rcases h.own.2 with ⟨hv, _⟩ | ⟨g, cap, cur, hv, hg, hh, _⟩
  · rw [hv] at hb; simp [Value.ownBlock] at hb
  · rw [hv] at hb
    have e : g = b := by simpa [Value.ownBlock] using hb
    subst e
    exact ⟨hg, cur, hh⟩
theorem RB.at_ {w : World} {v : Value} {l : List Nat} (h : RB w v l) {b : Nat} (hb : v.ownBlock = some b) : ∃ cur, w.heap[b]? = some (.cells cur 5 (0, 0)) := by
  obtain ⟨g, c, cur, e, _, _, h3, _⟩ := h
  rw [e] at hb
  have e' : g = b := by simpa [Value.ownBlock] using hb
  subst e'
  exact ⟨cur, h3⟩
theorem lt_of_heap {w : World} {b : Nat} {o : Obj} (h : w.heap[b]? = some o) : b < w.heap.size := (Array.getElem?_eq_some_iff.1 h).1
theorem Rsk.all_lt {w : World} {R : Rk} (h : Rsk w R) {b : Nat} (hb : R.all b) : b < w.heap.size := by
  rcases hb with (rfl | rfl | hb) | ⟨i, hi, hb⟩ | ⟨v, hv, hb⟩
  · exact lt_of_heap h.row
  · obtain ⟨cur, hc, _⟩ := h.cells; exact lt_of_heap hc
  · obtain ⟨_, cur, hc⟩ := h.own_ge hb; exact lt_of_heap hc
  · obtain ⟨cur, hc⟩ := (h.blk i hi).at_ hb; exact lt_of_heap hc
  · obtain ⟨i, hi, rfl⟩ := List.mem_iff_getElem.1 hv
    obtain ⟨cur, hc⟩ := (h.wsn i (by rw [← h.wlen]; exact hi)).2.at_ hb
    exact lt_of_heap hc
/-- what happens elsewhere -/
theorem Rsk.keep {S : Nat → Prop} {w w' : World} {R : Rk} (h : Rsk w R) (hk : Kp S w w') (hS : ∀ b, R.all b → ¬ S b) : Rsk w' R := by
  have key : ∀ b, R.all b → w'.heap[b]? = w.heap[b]? := fun b hb => hk.block b (h.all_lt hb) (hS b hb)
  refine ⟨h.kpos, h.kle, (key _ (.inl (.inl rfl))).trans h.row, ?_, fun i hi => (h.blk i hi).keep fun g cur hg _ => key g (.inr (.inl ⟨i, hi, hg⟩)), ?_, h.wlen, fun i hi => ⟨(h.wsn i hi).1, (h.wsn i hi).2.keep fun g cur hg _ => key g (.inr (.inr ⟨_, List.getElem_mem _, hg⟩))⟩, h.o1, h.o2, Nat.le_trans h.o3 hk.size, h.arm⟩
  · obtain ⟨cur, hc, hr⟩ := h.cells
    exact ⟨cur, (key _ (.inl (.inr (.inl rfl)))).trans hc, hr⟩
  · obtain ⟨hl, h1 | ⟨g, cap, cur, hv, hg, hh, hr⟩⟩ := h.own
    · exact ⟨hl, .inl h1⟩
    · exact ⟨hl, .inr ⟨g, cap, cur, hv, hg, (key g (.inl (.inr (.inr (by rw [hv]; rfl))))).trans hh, hr⟩⟩
theorem Rsk.gr {w w' : World} {R : Rk} (h : Rsk w R) (hg : Gr w w') : Rsk w' R := h.keep (Kp.of_gr (S := fun _ => False) hg) (fun _ _ hf => hf)
/-- the disk has moved on: its own parts alone have turned -/
structure Rv (w : World) (R : Rk) (w' : World) (R' : Rk) : Prop where
  kp : Kp R.fp w w'
  sk : Rsk w' R'
  all : ∀ b, R'.all b → R.all b ∨ w.heap.size ≤ b
  fp : ∀ b, R'.fp b → R.fp b ∨ w.heap.size ≤ b
  r : R'.r = R.r
  k : R'.k = R.k
theorem Rv.refl {w : World} {R : Rk} (h : Rsk w R) : Rv w R w R := ⟨Kp.refl _ _, h, fun _ hb => .inl hb, fun _ hb => .inl hb, rfl, rfl⟩
theorem Rv.gr {w w' : World} {R : Rk} (h : Rsk w R) (hg : Gr w w') : Rv w R w' R := ⟨Kp.of_gr hg, h.gr hg, fun _ hb => .inl hb, fun _ hb => .inl hb, rfl, rfl⟩
theorem Rv.trans {a b c : World} {R E F : Rk} (h : Rv a R b E) (k : Rv b E c F) : Rv a R c F :=
  ⟨h.kp.trans k.kp h.fp, k.sk, fun i hi => (k.all i hi).elim (h.all i) (fun hh => .inr (Nat.le_trans h.kp.size hh)), fun i hi => (k.fp i hi).elim (h.fp i) (fun hh => .inr (Nat.le_trans h.kp.size hh)), k.r.trans h.r, k.k.trans h.k⟩
end Go.Proofs.Ytkdphgcbecldbaa
/- The document's disk: its parts are turned. No program in sight. -/
namespace Go.Proofs.Ytkdphgcbecldbaa
open Go.RowKit
theorem ne_of_type {w : World} {b b' : Nat} {cs cs' : Array Value} {t t' : TypeId} (h : w.heap[b]? = some (.cells cs t (0, 0))) (h' : w.heap[b']? = some (.cells cs' t' (0, 0))) (hne : t ≠ t') : b ≠ b' := fun e => by
  subst e
  rw [h] at h'
  injection h' with h'
  injection h' with _ h'
  exact hne h'
/-- the first cells of the disk: its counts -/
theorem Rv.put {w : World} {R R' : Rk} (h : Rsk w R) (j : Nat) (v : Value) (hr : R'.row = R.row.setIfInBounds j v) (ha : 0 ≤ R'.ar ∧ R'.ar ≤ 9223372036854775807)
    (e : (R'.r, R'.cb, R'.base, R'.k, R'.vl, R'.bl, R'.hu, R'.wv, R'.ws, R'.wl) = (R.r, R.cb, R.base, R.k, R.vl, R.bl, R.hu, R.wv, R.ws, R.wl)) : Rv w R (w.setCell ⟨R.r, j, none⟩ v) R' := by
  simp only [Prod.mk.injEq] at e
  obtain ⟨e1, e2, e4, e5, e6, e7, e8, e9, e10, e11⟩ := e
  have kk : Kp (fun b => b = R.r) w (w.setCell ⟨R.r, j, none⟩ v) := (Kp.refl (fun b => b = R.r) w).setCell (.inl rfl) v
  have hoff : ∀ (b : Nat) (cur : Array Value) (t : TypeId), w.heap[b]? = some (.cells cur t (0, 0)) → t ≠ 103 → (w.setCell ⟨R.r, j, none⟩ v).heap[b]? = w.heap[b]? := fun b cur t hb ht => setCell_off v (ne_of_type hb h.row ht)
  have hrb : ∀ v' l, RB w v' l → RB (w.setCell ⟨R.r, j, none⟩ v) v' l := fun v' l hb => hb.keep fun g cur _ hg => hoff g cur 5 hg (by decide)
  have hfp : ∀ b, R'.fp b → R.fp b := fun b hb => by
    unfold Rk.fp at *
    rw [e1, e2, e9] at hb
    exact hb
  refine ⟨kk.mono fun i hi => .inl hi, ?_, fun b hb => .inl ?_, fun b hb => .inl (hfp b hb), e1, e5⟩
  · refine ⟨by rw [e5]; exact h.kpos, by rw [e5]; exact h.kle, by rw [e1, hr]; exact setCell_at h.row v, ?_, ?_, ?_, by rw [e11, e10]; exact h.wlen, ?_, by rw [e1, e4]; exact h.o1, by rw [e2, e4]; exact h.o2, by rw [e4]; exact Nat.le_trans h.o3 kk.size, ha⟩
    · rw [e2, e5, e6, e8]
      obtain ⟨cur, hc, hs, hx⟩ := h.cells
      exact ⟨cur, (hoff _ cur 105 hc (by decide)).trans hc, hs, hx⟩
    · rw [e5, e6, e7]
      exact fun i hi => hrb _ _ (h.blk i hi)
    · rw [e4, e9, e10, e11]
      obtain ⟨hl, h1 | ⟨g, cap, cur, hv, hg, hh, hr⟩⟩ := h.own
      · exact ⟨hl, .inl h1⟩
      · exact ⟨hl, .inr ⟨g, cap, cur, hv, hg, (hoff g cur 130 hh (by decide)).trans hh, hr⟩⟩
    · intro i hi
      simp only [e10, e11, e5] at hi ⊢
      exact ⟨(h.wsn i hi).1, hrb _ _ (h.wsn i hi).2⟩
  · unfold Rk.all at *
    rcases hb with hb | hb | hb
    · exact .inl (hfp b hb)
    · rw [e5, e6] at hb; exact .inr (.inl hb)
    · rw [e11] at hb; exact .inr (.inr hb)
/-- the cells' row -/
theorem Rsk.turned {w w' : World} {R : Rk} (h : Rsk w R) (kk : Kp (fun b => b = R.cb) w w') {vl' : Nat → Value} {bl' : Nat → List Nat} {hu' : Nat → Bool} {cur' : Array Value} (hc' : w'.heap[R.cb]? = some (.cells cur' 105 (0, 0))) (hs' : R.k * 2 ≤ cur'.size)
    (hx' : ∀ i, i < R.k → cur'[i * 2]? = some (vl' i) ∧ cur'[i * 2 + 1]? = some (.bool (hu' i))) (hb' : ∀ i, i < R.k → RB w (vl' i) (bl' i)) : Rsk w' { R with vl := vl', bl := bl', hu := hu' } := by
  obtain ⟨cur, hc, _⟩ := h.cells
  have hoff : ∀ (b : Nat) (cs : Array Value) (t : TypeId), w.heap[b]? = some (.cells cs t (0, 0)) → t ≠ 105 → w'.heap[b]? = w.heap[b]? := fun b cs t hb ht => kk.block b (lt_of_heap hb) (ne_of_type hb hc ht)
  have hrb : ∀ v' l, RB w v' l → RB w' v' l := fun v' l hb => hb.keep fun g cur _ hg => hoff g cur 5 hg (by decide)
  refine ⟨h.kpos, h.kle, (hoff _ _ 103 h.row (by decide)).trans h.row, ⟨cur', hc', hs', hx'⟩, fun i hi => hrb _ _ (hb' i hi), ?_, h.wlen, fun i hi => ⟨(h.wsn i hi).1, hrb _ _ (h.wsn i hi).2⟩, h.o1, h.o2, Nat.le_trans h.o3 kk.size, h.arm⟩
  obtain ⟨hl, h1 | ⟨g, cap, cur, hv, hg, hh, hr⟩⟩ := h.own
  · exact ⟨hl, .inl h1⟩
  · exact ⟨hl, .inr ⟨g, cap, cur, hv, hg, (hoff g cur 130 hh (by decide)).trans hh, hr⟩⟩
/-- a block's bytes are others: a new slice -/
theorem Rv.block {w0 w : World} {R0 R : Rk} (h0 : Rv w0 R0 w R) {n : Nat} (hn : n < R.k) {v : Value} {l : List Nat} (hv : RB w v l) (hnew : ∀ b, v.ownBlock = some b → w0.heap.size ≤ b) :
    Rv w0 R0 (w.setCell ⟨R.cb, n * 2, none⟩ v) { R with vl := upd R.vl n v, bl := upd R.bl n l } := by
  have h := h0.sk
  obtain ⟨cur, hc, hs, hx⟩ := h.cells
  have kk : Kp (fun b => b = R.cb) w (w.setCell ⟨R.cb, n * 2, none⟩ v) := (Kp.refl (fun b => b = R.cb) w).setCell (.inl rfl) v
  refine ⟨h0.kp.trans (kk.mono fun i hi => .inr (.inl hi)) h0.fp, ?_, fun b hb => ?_, fun b hb => h0.fp b hb, h0.r, h0.k⟩
  · refine h.turned (hu' := R.hu) kk (setCell_at hc v) (by rw [Array.size_setIfInBounds]; exact hs) (fun i hi => ?_) (fun i hi => ?_)
    · rw [Array.getElem?_setIfInBounds, Array.getElem?_setIfInBounds]
      by_cases e : i = n
      · subst e
        rw [if_pos rfl, if_pos (by omega), if_neg (by omega), upd_same]
        exact ⟨rfl, (hx i hi).2⟩
      · rw [if_neg (by omega), if_neg (by omega), upd_other _ _ e]
        exact hx i hi
    · by_cases e : i = n
      · subst e; rw [upd_same, upd_same]; exact hv
      · rw [upd_other _ _ e, upd_other _ _ e]; exact h.blk i hi
  · rcases hb with hb | ⟨i, hi, hb⟩ | hb
    · exact h0.all b (.inl hb)
    · by_cases e : i = n
      · subst e
        have hb' : (upd R.vl i v i).ownBlock = some b := hb
        rw [upd_same] at hb'
        exact .inr (hnew b hb')
      · have hb' : (upd R.vl n v i).ownBlock = some b := hb
        rw [upd_other _ _ e] at hb'
        exact h0.all b (.inr (.inl ⟨i, hi, hb'⟩))
    · exact h0.all b (.inr (.inr hb))
/-- a block's hurt is turned -/
theorem Rv.hurt {w : World} {R : Rk} (h : Rsk w R) {n : Nat} (hn : n < R.k) (v : Bool) : Rv w R (w.setCell ⟨R.cb, n * 2 + 1, none⟩ (.bool v)) { R with hu := upd R.hu n v } := by
  obtain ⟨cur, hc, hs, hx⟩ := h.cells
  have kk : Kp (fun b => b = R.cb) w (w.setCell ⟨R.cb, n * 2 + 1, none⟩ (.bool v)) := (Kp.refl (fun b => b = R.cb) w).setCell (.inl rfl) _
  refine ⟨kk.mono fun i hi => .inr (.inl hi), ?_, fun b hb => .inl hb, fun b hb => .inl hb, rfl, rfl⟩
  refine h.turned (vl' := R.vl) (bl' := R.bl) kk (setCell_at hc _) (by rw [Array.size_setIfInBounds]; exact hs) (fun i hi => ?_) h.blk
  rw [Array.getElem?_setIfInBounds, Array.getElem?_setIfInBounds]
  by_cases e : i = n
  · subst e
    rw [if_neg (by omega), if_pos rfl, if_pos (by omega), upd_same]
    exact ⟨(hx i hi).1, rfl⟩
  · rw [if_neg (by omega), if_neg (by omega), upd_other _ _ e]
    exact hx i hi
end Go.Proofs.Ytkdphgcbecldbaa
