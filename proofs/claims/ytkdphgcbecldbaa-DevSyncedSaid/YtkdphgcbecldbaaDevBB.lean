/- The disk's deeds, as pure functions; what a caller needs of them. -/
import Derived.Test.YtkdphgcbecldbaaDevAA
import Derived.Test.YtkdphgcbecldbaaDevU
import Derived.Test.YtkdphgcbecldbaaDevG
namespace Go.Proofs.Ytkdphgcbecldbaa
open Go.RowKit
theorem over_all {p b : List Nat} (hp : p.length = 256) (hb : b.length = 256) : over (p.take (32 * 8)) b = p := by
  unfold over
  rw [List.take_of_length_le (by omega), List.drop_of_length_le (by omega), List.append_nil]
def stb (bl : Nat → List Nat) (es : List (Nat × List Nat)) : Nat → List Nat := es.foldl (fun b e => upd b e.1 e.2) bl
def sth (hu : Nat → Bool) (es : List (Nat × List Nat)) : Nat → Bool := es.foldl (fun h e => upd h e.1 false) hu
theorem upd_len {bl : Nat → List Nat} {k n : Nat} {l : List Nat} (hb : ∀ i, i < k → (bl i).length = 256) (hl : l.length = 256) : ∀ i, i < k → (upd bl n l i).length = 256 := by
  intro i hi
  by_cases h : i = n
  · subst h; rw [upd_same]; exact hl
  · rw [upd_other _ _ h]; exact hb i hi
theorem stAll_eq : ∀ (es : List (Nat × List Nat)) (D : Dk), (∀ i, i < D.k → (D.bl i).length = 256) → (∀ e, e ∈ es → e.1 < D.k ∧ e.2.length = 256) → (D.stAll es).bl = stb D.bl es ∧ (D.stAll es).hu = sth D.hu es
  | [], _, _, _ => ⟨rfl, rfl⟩
  | e :: r, D, hb, he => by
    obtain ⟨h1, h2⟩ := he e (List.mem_cons_self ..)
    have hbl : (D.st e.1 e.2 8).bl = upd D.bl e.1 e.2 := by unfold Dk.st; simp only; rw [over_all h2 (hb _ h1)]
    have hhu : (D.st e.1 e.2 8).hu = upd D.hu e.1 false := by unfold Dk.st; simp only [if_true]
    have := stAll_eq r (D.st e.1 e.2 8) (by rw [hbl]; exact upd_len hb h2) (fun e' he' => he e' (List.mem_cons_of_mem _ he'))
    rw [hbl, hhu] at this
    exact this
/-- what a caller keeps of a disk -/
structure Is (D : Dk) (k : Nat) (dn : Bool) (bl : Nat → List Nat) (hu : Nat → Bool) (ws : List (Nat × List Nat)) : Prop where
  k : D.k = k
  dn : D.dn = dn
  ar : D.ar = 0
  bl : D.bl = bl
  hu : D.hu = hu
  ws : D.ws = ws
theorem new_is (k : Nat) (w : World) (h1 : 1 ≤ k) (h2 : k ≤ 4096) : Calls Try.prog 25 #[.int .i64 k] w fun r w' => ∃ d D, r = .returned (.tuple #[.pointer (some ⟨d, 0, none⟩), .int .i64 0]) ∧ D.d = d ∧ Gr w w' ∧ Dsk w' D ∧ (∀ b, D.fp b → w.heap.size ≤ b) ∧ Is D k false (fun _ => Z 256) (fun _ => false) [] := by
  refine (new_yes k w h1 h2).mono ?_
  rintro r w' ⟨d, bb, hb, rfl, hg, hd, g1, g2, g3⟩
  refine ⟨d, _, rfl, rfl, hg, hd, ?_, ⟨rfl, rfl, rfl, rfl, rfl, rfl⟩⟩
  rintro b (rfl | rfl | rfl | h)
  · exact g3
  · exact g1
  · exact g2
  · simp [Dk.fresh, Value.ownBlock] at h
theorem Mv.kp {w w' w'' : World} {D D' : Dk} {B : Nat} (h : Mv w' D w'' D') (hB : ∀ b, D.fp b → B ≤ b) (hle : B ≤ w'.heap.size) (hg : Below B w w') : Below B w w'' ∧ (∀ b, D'.fp b → B ≤ b) := by
  refine ⟨hg.trans (h.1.below (fun i hi => hB i hi) hle), fun b hb => ?_⟩
  rcases h.2.2.1 b hb with h1 | h1
  · exact hB b h1
  · omega
theorem Mv.d {w w' : World} {D D' : Dk} (h : Mv w D w' D') : D'.d = D.d := congrArg Prod.fst h.2.2.2
theorem write_is {D : Dk} {k : Nat} {bl : Nat → List Nat} {hu : Nat → Bool} {ws : List (Nat × List Nat)} (hI : Is D k false bl hu ws) (n : Nat) (A : Option Addr) (len c : Nat) (l : List Nat) (B : Nat) (w : World) (h : Dsk w D) (hb : Bs w B ⟨A, len, c⟩ l) (hB : B ≤ w.heap.size) (hf : 0 < len → ∀ b o, A = some ⟨b, o, none⟩ → ¬ D.fp b) (hn : n < k) (hl : len ≤ 256) (hws : ws.length ≤ 1000000) :
    Calls Try.prog 26 #[.pointer (some ⟨D.d, 0, none⟩), .int .i64 n, .slice A len c] w fun r w' => r = .returned (.int .i64 0) ∧ ∃ D', Mv w D w' D' ∧ Is D' k false bl hu (ws ++ [(n, pad l)]) := by
  refine (write_ok D n A len c l B w h hb hB hf hI.dn (by rw [hI.k]; exact hn) hl (by rw [hI.ar]; omega) (by rw [hI.ws]; exact hws)).mono ?_
  rintro r w' ⟨rfl, v, hm⟩
  refine ⟨rfl, _, hm, ⟨hI.k, hI.dn, ?_, hI.bl, hI.hu, by show D.ws ++ _ = _; rw [hI.ws]⟩⟩
  show max (D.ar - 1) 0 = 0
  rw [hI.ar]; rfl
theorem long_is {D : Dk} {k : Nat} {bl : Nat → List Nat} {hu : Nat → Bool} {ws : List (Nat × List Nat)} (hI : Is D k false bl hu ws) (n : Nat) (A : Option Addr) (len c : Nat) (w : World) (h : Dsk w D) (hn : n < k) (hl : 256 < len) :
    Calls Try.prog 26 #[.pointer (some ⟨D.d, 0, none⟩), .int .i64 n, .slice A len c] w fun r w' => r = .returned (.int .i64 2) ∧ ∃ D', Mv w D w' D' ∧ Is D' k false bl hu ws := by
  refine (write_long D n A len c w h hI.dn (by omega) (by rw [hI.k]; omega) hl).mono ?_
  rintro r w' ⟨rfl, hm⟩
  exact ⟨rfl, _, hm, hI⟩
theorem sync_is {D : Dk} {k : Nat} {bl : Nat → List Nat} {hu : Nat → Bool} {ws : List (Nat × List Nat)} (hI : Is D k false bl hu ws) (w : World) (h : Dsk w D) (hws : ws.length ≤ 1000000) :
    Calls Try.prog 27 #[.pointer (some ⟨D.d, 0, none⟩)] w fun r w' => r = .returned (.int .i64 0) ∧ ∃ D', Mv w D w' D' ∧ Is D' k false (stb bl ws) (sth hu ws) [] := by
  refine (sync_ok D w h hI.dn (by rw [hI.ar]; omega) (by rw [hI.ws]; exact hws)).mono ?_
  rintro r w' ⟨rfl, hm⟩
  refine ⟨rfl, _, hm, ?_⟩
  obtain ⟨s1, s2, s3, s4, s5, s6, s7, s8⟩ := stAll_same D.ws D.turn
  obtain ⟨e1, e2⟩ := stAll_eq D.ws D.turn (fun i hi => (h.bln i hi).1) (fun e he => ⟨(h.wsn e he).1, (h.wsn e he).2.1⟩)
  refine ⟨s2.trans hI.k, s6.trans hI.dn, s5.trans ?_, e1.trans ?_, e2.trans ?_, rfl⟩
  · show max (D.ar - 1) 0 = 0
    rw [hI.ar]; rfl
  · show stb D.bl D.ws = _
    rw [hI.bl, hI.ws]
  · show sth D.hu D.ws = _
    rw [hI.hu, hI.ws]
theorem crash_is {D : Dk} {k : Nat} {bl : Nat → List Nat} {hu : Nat → Bool} {ws : List (Nat × List Nat)} (hI : Is D k false bl hu ws) (w : World) (h : Dsk w D) :
    Calls Try.prog 30 #[.pointer (some ⟨D.d, 0, none⟩)] w fun r w' => r = .returned (.int .i64 0) ∧ ∃ D', Mv w D w' D' ∧ Is D' k true bl hu ws := by
  refine (crash_ok D w h hI.dn).mono ?_
  rintro r w' ⟨rfl, hm⟩
  exact ⟨rfl, _, hm, ⟨hI.k, rfl, rfl, hI.bl, hI.hu, hI.ws⟩⟩
/-- the blocks as they are woken -/
def wkb (stay torn part : Int) (bl : Nat → List Nat) (es : List (Nat × List Nat)) : Nat → List Nat :=
  es.zipIdx.foldl (fun b p => match wkn stay torn part p.2 with | some m => upd b p.1.1 (over (p.1.2.take (32 * m)) (b p.1.1)) | none => b) bl
theorem wkAll_bl (D : Dk) (stay torn part : Int) (es : List (Nat × List Nat)) : (D.wkAll stay torn part es).bl = wkb stay torn part D.bl es := by
  unfold Dk.wkAll wkb
  generalize es.zipIdx = ps
  induction ps generalizing D with
  | nil => rfl
  | cons p r ih =>
    rw [List.foldl_cons, List.foldl_cons, ih]
    congr 1
    unfold Dk.wk1
    cases wkn stay torn part p.2 <;> rfl
theorem wake_is {D : Dk} {k : Nat} {bl : Nat → List Nat} {hu : Nat → Bool} {ws : List (Nat × List Nat)} (hI : Is D k true bl hu ws) (a b c : Int) (w : World) (h : Dsk w D) (hws : ws.length ≤ 1000000) :
    Calls Try.prog 31 #[.pointer (some ⟨D.d, 0, none⟩), .int .i64 a, .int .i64 b, .int .i64 c] w fun r w' => r = .returned (.int .i64 0) ∧ ∃ D' hu', Mv w D w' D' ∧ Is D' k false (wkb a b c bl ws) hu' [] := by
  refine (wake_ok D a b c w h hI.dn (by rw [hI.ws]; exact hws)).mono ?_
  rintro r w' ⟨rfl, hm⟩
  refine ⟨rfl, _, _, hm, ⟨(wkAll_same D a b c D.ws).2.1.trans hI.k, rfl, rfl, ?_, rfl, rfl⟩⟩
  show (D.wkAll a b c D.ws).bl = _
  rw [wkAll_bl, hI.bl, hI.ws]
theorem read_is {D : Dk} {k : Nat} {bl : Nat → List Nat} {hu : Nat → Bool} (hI : Is D k false bl hu []) (n : Nat) (w : World) (h : Dsk w D) (hn : n < k) :
    Calls Try.prog 32 #[.pointer (some ⟨D.d, 0, none⟩), .int .i64 n] w fun r w' => ∃ b, w.heap.size ≤ b ∧ w'.heap[b]? = some (.cells (bvs (bl n)).toArray 93 (0, 0)) ∧ r = .returned (.tuple #[.slice (some ⟨b, 0, none⟩) 256 256, .int .i64 0]) ∧ Gr w w' := by
  have h1 := read_ok D n w h hI.dn (by rw [hI.k]; exact hn) (by rw [hI.ws]; exact Nat.zero_le _)
  rw [hI.ws, hI.bl] at h1
  exact h1
theorem stat_is {D : Dk} {k : Nat} {dn : Bool} {bl : Nat → List Nat} {hu : Nat → Bool} {ws : List (Nat × List Nat)} (hI : Is D k dn bl hu ws) (w : World) (h : Dsk w D) :
    Calls Try.prog 28 #[.pointer (some ⟨D.d, 0, none⟩)] w fun r w' => ∃ t c, r = .returned (.agg #[.int .i64 k, .int .i64 ws.length, .int .i64 (((List.range k).filter hu).length : Nat), .int .i64 t, .int .i64 c, .bool dn]) ∧ Gr w w' := by
  refine (stat_ok D w h).mono ?_
  rintro r w' ⟨rfl, hg⟩
  refine ⟨D.tu, D.cr, ?_, hg⟩
  unfold Dk.stat Dk.hurts
  rw [hI.k, hI.ws, hI.hu, hI.dn]
theorem stored_is {D : Dk} {k : Nat} {dn : Bool} {bl : Nat → List Nat} {hu : Nat → Bool} {ws : List (Nat × List Nat)} (hI : Is D k dn bl hu ws) (n : Nat) (w : World) (h : Dsk w D) (hn : n < k) :
    Calls Try.prog 29 #[.pointer (some ⟨D.d, 0, none⟩), .int .i64 n] w fun r w' => ∃ b, w.heap.size ≤ b ∧ w'.heap[b]? = some (.cells (bvs (bl n)).toArray 93 (0, 0)) ∧ r = .returned (.slice (some ⟨b, 0, none⟩) 256 256) ∧ Gr w w' := by
  refine (stored_ok D n w h (by rw [hI.k]; exact hn)).mono ?_
  rintro r w' ⟨rfl, rfl⟩
  rw [hI.bl]
  exact ⟨_, Nat.le_refl _, heap_alloc_new w _, rfl, Gr.at_alloc w _⟩
/-- the disk at d, all of it above B; below B all is as it was -/
structure Up (B : Nat) (w0 w : World) (d : Nat) (D : Dk) : Prop where
  dsk : Dsk w D
  d : D.d = d
  fp : ∀ b, D.fp b → B ≤ b
  gr : Below B w0 w
  le : B ≤ w0.heap.size
theorem Up.mv {B : Nat} {w0 w w' : World} {d : Nat} {D D' : Dk} (h : Up B w0 w d D) (hm : Mv w D w' D') : Up B w0 w' d D' := by
  obtain ⟨g, f⟩ := hm.kp h.fp (Nat.le_trans h.le h.gr.size) h.gr
  exact ⟨hm.2.1, hm.d.trans h.d, f, g, h.le⟩
theorem Up.more {B : Nat} {w0 w w' : World} {d : Nat} {D : Dk} (h : Up B w0 w d D) (hg : Gr w w') : Up B w0 w' d D :=
  ⟨h.dsk.gr hg, h.d, h.fp, h.gr.trans (hg.mono (Nat.le_trans h.le h.gr.size)), h.le⟩
end Go.Proofs.Ytkdphgcbecldbaa
