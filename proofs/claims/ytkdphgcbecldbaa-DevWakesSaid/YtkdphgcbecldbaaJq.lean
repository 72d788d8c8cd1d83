/- Texts of the proof, one behind the other: RefK, OverB, TwC, DoesA. -/
import Derived.Test.YtkdphgcbecldbaaJp
import Derived.Test.YtkdphgcbecldbaaJl
import Derived.Test.YtkdphgcbecldbaaJn
/- The document's disk: New (37). -/
namespace Go.Proofs.Ytkdphgcbecldbaa
open Go.RowKit
theorem info105 : (Try.prog.info? 105).map (fun i => (i.zero, i.size, i.bytes)) = some (some (.agg #[.slice none 0 0, .bool false]), 2, 32) := by kernel_rfl
def nv (g : Nat) : Value := .slice (some ⟨g, 0, none⟩) 256 256
def nrow (gs : List Nat) : List Value := (gs.map fun g => [nv g, Value.bool false]).flatten
theorem nrow_snoc (gs : List Nat) (g : Nat) : nrow (gs ++ [g]) = nrow gs ++ [nv g, .bool false] := by
  unfold nrow
  rw [List.map_append, List.flatten_append]
  rfl
theorem nrow_at : ∀ (gs : List Nat) (i : Nat), i < gs.length → (nrow gs)[i * 2]? = some (nv (gs.getD i 0)) ∧ (nrow gs)[i * 2 + 1]? = some (.bool false)
  | [], i, hi => by cases hi
  | g :: r, i, hi => by
    have e1 : nrow (g :: r) = nv g :: .bool false :: nrow r := by unfold nrow; rw [List.map_cons, List.flatten_cons]; rfl
    rw [e1]
    cases i with
    | zero => exact ⟨rfl, rfl⟩
    | succ i =>
      rw [show (i + 1) * 2 = i * 2 + 1 + 1 by omega]
      exact nrow_at r i (by simpa using hi)
def drow (sv : Value) : Array Value := #[sv, .slice none 0 0, .int .i64 0, .int .i64 0, .int .i64 0, .bool false]
/-- a disk of the document's under way -/
structure Nr (w : World) (s0 r i : Nat) (sv : Value) (gs : List Nat) : Prop where
  row : w.heap[r]? = some (.cells (drow sv) 103 (0, 0))
  own : w.ownsRow s0 105 2 sv i (nrow gs)
  len : gs.length = i
  blk : ∀ j, j < gs.length → s0 ≤ gs.getD j 0 ∧ w.heap[gs.getD j 0]? = some (.cells (bvs (Z 256)).toArray 5 (0, 0))
  le : s0 ≤ r
theorem getD_snoc (gs : List Nat) (g j : Nat) : (gs ++ [g]).getD j 0 = if j < gs.length then gs.getD j 0 else if j = gs.length then g else 0 := by
  rw [List.getD_eq_getElem?_getD, List.getElem?_append]
  by_cases h : j < gs.length
  · rw [if_pos h, if_pos h, List.getD_eq_getElem?_getD]
  · rw [if_neg h, if_neg h]
    by_cases e : j = gs.length
    · rw [if_pos e, e, Nat.sub_self]; rfl
    · rw [if_neg e, List.getElem?_eq_none (by simp only [List.length_singleton]; omega)]; rfl
theorem Nr.own_ne {w : World} {s0 r i : Nat} {sv : Value} {gs : List Nat} (h : Nr w s0 r i sv gs) {b : Nat} {cs : Array Value} {t : TypeId} (hb : w.heap[b]? = some (.cells cs t (0, 0))) (ht : t ≠ 105) : some b ≠ sv.ownBlock := fun e => by
  rcases h.own.2 with ⟨hv, _⟩ | ⟨g, cap, cur, hv, _, hh, _⟩
  · rw [hv] at e; simp [Value.ownBlock] at e
  · rw [hv] at e
    have e' : b = g := by simpa [Value.ownBlock] using e
    subst e'
    exact ne_of_type hb hh ht rfl
theorem Nr.own_ge {w : World} {s0 r i : Nat} {sv : Value} {gs : List Nat} (h : Nr w s0 r i sv gs) {b : Nat} (hb : sv.ownBlock = some b) : s0 ≤ b := by
  rcases h.own.2 with ⟨hv, _⟩ | ⟨g, cap, cur, hv, hg, hh, _⟩
  · rw [hv] at hb; simp [Value.ownBlock] at hb
  · rw [hv] at hb
    have e' : g = b := by simpa [Value.ownBlock] using hb
    omega
theorem Nr.step {w w1 w2 : World} {s0 r i g : Nat} {sv v' : Value} {gs : List Nat} (h : Nr w s0 r i sv gs) (hg : Gr w w1) (hs : s0 ≤ g) (hgb : w1.heap[g]? = some (.cells (bvs (Z 256)).toArray 5 (0, 0)))
    (own : w2.ownsRow s0 105 2 v' (i + 1) (nrow gs ++ [nv g, .bool false])) (hgr : w1.grownBy w2 sv.ownBlock) : Nr (w2.setCell ⟨r, 0, none⟩ v') s0 r (i + 1) v' (gs ++ [g]) := by
  have k1 : ∀ (b : Nat) (cs : Array Value) (t : TypeId), w.heap[b]? = some (.cells cs t (0, 0)) → t ≠ 105 → w2.heap[b]? = some (.cells cs t (0, 0)) := fun b cs t hb ht => by
    have h1 : w1.heap[b]? = some (.cells cs t (0, 0)) := gr_cells hb hg
    exact (hgr.block b (lt_of_heap h1) (h.own_ne hb ht)).trans h1
  have k2 : w2.heap[g]? = some (.cells (bvs (Z 256)).toArray 5 (0, 0)) := by
    refine (hgr.block g (lt_of_heap hgb) (fun e => ?_)).trans hgb
    rcases h.own.2 with ⟨hv, _⟩ | ⟨g', cap, cur, hv, _, hh, _⟩
    · rw [hv] at e; simp [Value.ownBlock] at e
    · rw [hv] at e
      have e' : g = g' := by simpa [Value.ownBlock] using e
      subst e'
      exact ne_of_type hgb (gr_cells hh hg) (by decide) rfl
  have hrow := k1 r _ 103 h.row (by decide)
  have off : ∀ (b : Nat) (cs : Array Value) (t : TypeId), w2.heap[b]? = some (.cells cs t (0, 0)) → t ≠ 103 → (w2.setCell ⟨r, 0, none⟩ v').heap[b]? = some (.cells cs t (0, 0)) := fun b cs t hb ht => (setCell_off v' (ne_of_type hb hrow ht)).trans hb
  refine ⟨setCell_at hrow v', ?_, by rw [List.length_append, h.len]; rfl, fun j hj => ?_, h.le⟩
  · rw [nrow_snoc]
    obtain ⟨hl, ⟨_, h1⟩ | ⟨g', cap, cur, hv, hg', hh, hr⟩⟩ := own
    · omega
    · exact ⟨hl, .inr ⟨g', cap, cur, hv, hg', off _ _ _ hh (by decide), hr⟩⟩
  · rw [getD_snoc]
    by_cases e : j < gs.length
    · rw [if_pos e]
      exact ⟨(h.blk j e).1, off _ _ _ (k1 _ _ _ (h.blk j e).2 (by decide)) (by decide)⟩
    · have e2 : j = gs.length := by rw [List.length_append, List.length_singleton] at hj; omega
      rw [if_neg e, if_pos e2]
      exact ⟨hs, off _ _ _ k2 (by decide)⟩
def St.new (k : Nat) : St := ⟨k, 0, 0, 0, false, fun _ => Z 256, fun _ => false, []⟩
theorem Nr.done {w : World} {s0 r k : Nat} {sv : Value} {gs : List Nat} (h : Nr w s0 r k sv gs) (h1 : 1 ≤ k) (h2 : k ≤ 4096) : ∃ R : Rk, R.r = r ∧ Rsk w R ∧ (∀ b, R.all b → s0 ≤ b) ∧ R.s = .new k := by
  obtain ⟨hl, ⟨_, h3⟩ | ⟨g, cap, cur, hv, hg, hh, hle, hc1, hc2, hr⟩⟩ := h.own
  · omega
  · have hsz : k * 2 ≤ cur.size := by
      have := congrArg List.length hr
      rw [List.length_take, Array.length_toList] at this
      omega
    refine ⟨⟨r, g, cap, w.heap.size, k, 0, 0, 0, false, fun i => nv (gs.getD i 0), fun _ => Z 256, fun _ => false, .slice none 0 0, [], []⟩, rfl, ⟨h1, h2, ?_, ⟨cur, hh, hsz, fun i hi => ?_⟩, fun i hi => ?_, World.ownsRow_nil _ _ _ _, rfl, fun i hi => absurd hi (by simp), lt_of_heap h.row, lt_of_heap hh, Nat.le_refl _, by simp⟩, ?_, rfl⟩
    · have := h.row
      unfold drow at this
      rw [hv] at this
      exact this
    · obtain ⟨x1, x2⟩ := nrow_at gs i (by rw [h.len]; exact hi)
      have hi' : i < k := hi
      rw [← hr, List.getElem?_take, if_pos (by omega), Array.getElem?_toList] at x1 x2
      exact ⟨x1, x2⟩
    · exact ⟨gs.getD i 0, 256, _, rfl, by omega, by omega, (h.blk i (by rw [h.len]; exact hi)).2, by rw [List.toList_toArray, List.take_of_length_le (by rw [bvs_len, Z_len]; exact Nat.le_refl _)], Z_len _, small_zero _⟩
    · rintro b ((hb | hb | hb) | ⟨i, hi, hb⟩ | ⟨v, hv', _⟩)
      · rw [hb]; exact h.le
      · rw [hb]; exact hg
      · simp [Value.ownBlock] at hb
      · have e : gs.getD i 0 = b := by simpa [nv, Value.ownBlock] using hb
        rw [← e]
        exact (h.blk i (by rw [h.len]; exact hi)).1
      · cases hv'
set_option maxRecDepth 100000 in
set_option maxHeartbeats 1000000 in
theorem rnew_no (n : Int) (w : World) (h : n < 1 ∨ 4096 < n) : Calls Try.prog 37 #[.int .i64 n] w fun r w' => r = .returned (.tuple #[.pointer none, .int .i64 2]) ∧ w' = w := by
  rcases h with h | h
  · go_enter Try.func37, Try.ntmps37
    go_wp2_with fail
    go_ret2
    exact ⟨rfl, rfl⟩
  · have h' : ¬ n < 1 := by omega
    go_enter Try.func37, Try.ntmps37
    go_wp2_with fail
    go_ret2
    exact ⟨rfl, rfl⟩
set_option maxRecDepth 100000 in
set_option maxHeartbeats 4000000 in
theorem rnew_yes (k : Nat) (w : World) (h1 : 1 ≤ k) (h2 : k ≤ 4096) : Calls Try.prog 37 #[.int .i64 k] w fun r w' => ∃ R : Rk, r = .returned (.tuple #[.pointer (some ⟨R.r, 0, none⟩), .int .i64 0]) ∧ Gr w w' ∧ Rsk w' R ∧ (∀ b, R.all b → w.heap.size ≤ b) ∧ R.s = .new k := by
  have hk1 : ¬ ((k : Int) < 1) := by omega
  have hk2 : ¬ (4096 < (k : Int)) := by omega
  have HN0 : Hid (Nr (w.alloc (.cells (drow (.slice none 0 0)) 103)) w.heap.size w.heap.size 0 (.slice none 0 0) []) := ⟨heap_alloc_new w _, World.ownsRow_nil _ _ _ _, rfl, fun j hj => absurd hj (by simp), Nat.le_refl _⟩
  have hmk : ∀ W : World, (Instr.makeSlice 24 (.int .i64 256) (.int .i64 256)).run Try.prog W = .ok (.slice (some ⟨W.heap.size, 0, none⟩) 256 256) (W.alloc (.cells (bvs (Z 256)).toArray 5)) := make24 256 (by decide)
  obtain ⟨i1, hi1, hz1, hs1, hy1⟩ := info_parts info105
  have I1 := Lib.hid (And.intro hi1 (And.intro hz1 (And.intro hs1 hy1)))
  clear hi1 hz1 hs1 hy1
  have H1 := Lib.hid h1
  have H2 := Lib.hid h2
  clear h1 h2
  go_enter Try.func37, Try.ntmps37
  go_wp2_with fail
  go_loopw [5] (fun i wr => ∃ (q : Nat) (sv : Value) (gs : List Nat), q ≤ k ∧ i = .int .i64 q ∧ Hid (Nr wr w.heap.size w.heap.size q sv gs) ∧ Hid (Gr w wr)) (fun i _ => k - (intOf i).toNat)
  case atStart => exact ⟨0, _, _, by omega, rfl, HN0.out, Gr.at_alloc w _⟩
  case round =>
    obtain ⟨q, sv, gs, hq, rfl, HN, HG⟩ := hrel
    by_cases hlt : q < k
    · have c0 : wr.cell? ⟨w.heap.size, 0, none⟩ = some sv := (cell_of_row _ _ _ _ _ _ HN.out.row).trans rfl
      have hrl : w.heap.size < wr.heap.size := lt_of_heap HN.out.row
      have b1 : (q : Int) < (k : Int) := by omega
      generalize hbx : w.heap.size = bx at *
      have hgr3 : Gr wr (((wr.alloc (.cells (bvs (Z 256)).toArray 5)).alloc (.cells #[nv wr.heap.size, .bool false] 105)).drew) := Below.drew ((Gr.at_alloc wr _).alloc _)
      have HOWN : Hid ((((wr.alloc (.cells (bvs (Z 256)).toArray 5)).alloc (.cells #[nv wr.heap.size, .bool false] 105)).drew).ownsRow bx 105 2 sv q (nrow gs)) := ((HN.out.own.alloc _).alloc _).drew
      have HNEWS : Hid (∀ j u, [nv wr.heap.size, .bool false][j]? = some u → (((wr.alloc (.cells (bvs (Z 256)).toArray 5)).alloc (.cells #[nv wr.heap.size, .bool false] 105)).drew).cell? ((⟨wr.heap.size + 1, 0, none⟩ : Addr).add j) = some u) :=
        World.news_of_block (cs := #[nv wr.heap.size, .bool false]) (t := 105) (fr := (0, 0)) (by
          show ((wr.alloc _).alloc _).heap[wr.heap.size + 1]? = _
          exact heap_alloc_at (World.size_alloc _ _).symm)
      have HONE : Hid (∀ u ∈ [nv wr.heap.size, Value.bool false], u.oneCell' = true) := by
        intro u hu
        rcases List.mem_cons.1 hu with rfl | hu
        · rfl
        · rw [List.mem_singleton.1 hu]; rfl
      have HSZ : Hid ((((wr.alloc (.cells (bvs (Z 256)).toArray 5)).alloc (.cells #[nv wr.heap.size, .bool false] 105)).drew).heap.size = wr.heap.size + 2) := by
        show ((wr.alloc _).alloc _).heap.size = _
        rw [World.size_alloc, World.size_alloc]
      have HB : Hid (bx ≤ (((wr.alloc (.cells (bvs (Z 256)).toArray 5)).alloc (.cells #[nv wr.heap.size, .bool false] 105)).drew).heap.size) := by
        show _ ≤ _
        rw [HSZ.out]; omega
      have HZB : Hid ((((wr.alloc (.cells (bvs (Z 256)).toArray 5)).alloc (.cells #[nv wr.heap.size, .bool false] 105)).drew).heap[wr.heap.size]? = some (.cells (bvs (Z 256)).toArray 5 (0, 0))) := by
        show ((wr.alloc _).alloc _).heap[wr.heap.size]? = _
        rw [Below.heap_alloc _ _ _ (by rw [World.size_alloc]; omega)]
        exact heap_alloc_new wr _
      have HBX : Hid (bx ≤ wr.heap.size) := by show _ ≤ _; omega
      have HGR3 := Lib.hid hgr3
      have HROW : Hid (∀ w2 : World, (((wr.alloc (.cells (bvs (Z 256)).toArray 5)).alloc (.cells #[nv wr.heap.size, .bool false] 105)).drew).grownBy w2 sv.ownBlock → w2.heap[bx]? = some (.cells (drow sv) 103 (0, 0))) := fun w2 hg2 => by
        have h3 := gr_cells HN.out.row HGR3.out
        exact (hg2.block bx (lt_of_heap h3) (HN.out.own_ne HN.out.row (by decide))).trans h3
      have HQ : Hid (q ≤ 4096) := by have := H2.out; show _ ≤ _; omega
      have HGF : Hid (∀ w2 : World, (((wr.alloc (.cells (bvs (Z 256)).toArray 5)).alloc (.cells #[nv wr.heap.size, .bool false] 105)).drew).grownBy w2 sv.ownBlock → ∀ v, Gr w (w2.setCell ⟨bx, 0, none⟩ v)) := fun w2 hg2 v => by
        have h1 := HG.out.trans (HGR3.out.mono HG.out.size)
        have h2 := h1.grown hg2 (Nat.le_trans HG.out.size HGR3.out.size) (fun b hb => by rw [hbx]; exact HN.out.own_ge hb)
        exact Below.setCell h2 (by simp only; omega) v
      clear hgr3
      generalize hW3 : ((wr.alloc (.cells (bvs (Z 256)).toArray 5)).alloc (.cells #[nv wr.heap.size, .bool false] 105)).drew = W3 at HOWN HNEWS HSZ HB HZB HROW HGR3 HGF
      have HW3 := Lib.hid hW3
      clear hW3
      go_wp2_with fail
      go_region_law ((refine step_append_lies _ (by rfl) (.tmp 23) (.tmp 26) 100 (by rfl) bx 105 i1 _ 2 32 Try.underlying100 I1.out.1 I1.out.2.1 I1.out.2.2.1 I1.out.2.2.2 (by kernel_rfl) (by omega) sv q (nrow gs) (by rfl) (by have := HOWN.out; rw [← HW3.out] at this; exact this) (⟨wr.heap.size + 1, 0, none⟩ : Addr) 1 1 [nv wr.heap.size, .bool false] (by rfl) (by rfl) (by have := HNEWS.out; rw [← HW3.out] at this; exact this) HONE.out (by omega) (by have := HQ.out; unfold maxLen; omega) (by have := HQ.out; omega) (by have := HB.out; rw [← HW3.out] at this; exact this) (wr.heap.size + 2) (by have := HSZ.out; rw [← HW3.out] at this; exact this) ?_; intro g2 c2 w2 hown2 hgrow hat hlt2; have hgrow3 : W3.grownBy w2 sv.ownBlock := (by rw [← HW3.out]; exact hgrow); have hrow2 := HROW.out w2 hgrow3; have c4 : w2.cell? ⟨bx, 0, none⟩ = some sv := (cell_of_row _ _ _ _ _ _ hrow2).trans rfl; have f4 : w2.frozen? ⟨bx, 0, none⟩ = false := (by simp [World.frozen?, hrow2]); have HST := Lib.hid (HN.out.step HGR3.out HBX.out HZB.out hown2 hgrow3); have HGG : Hid (Gr w (w2.setCell ⟨bx, 0, none⟩ (.slice (some ⟨g2, 0, none⟩) (q + 1) c2))) := HGF.out _ hgrow3 _; clear hown2 hgrow hgrow3 hat hrow2))
      all_goals (
        go_wp2_with fail
        exact ⟨⟨q + 1, _, gs ++ [wr.heap.size], by omega, by go_num, HST.out, HGG.out⟩, by simp [intOf]; omega⟩)
    · have hqk : q = k := by omega
      subst hqk
      obtain ⟨R, hr, hR, hall, hs⟩ := HN.out.done H1.out H2.out
      have HRR := Lib.hid (And.intro hR (And.intro hall hs))
      have HRE := Lib.hid hr
      clear hr hR hall hs
      go_wp2_with fail
      go_ret2
      exact ⟨R, by rw [HRE.out]; rfl, HG.out, HRR.out.1, HRR.out.2.1, HRR.out.2.2⟩
end Go.Proofs.Ytkdphgcbecldbaa
/- OverBytes (62): what is told is written over. -/
namespace Go.Proofs.Ytkdphgcbecldbaa
open Go.RowKit
set_option maxRecDepth 100000 in
set_option maxHeartbeats 1000000 in
theorem over_nil (w : World) : Calls Try.prog 62 #[.slice none 0 0] w fun r w' => r = .returned (.tuple #[]) ∧ w' = w := by
  go_enter Try.func62, Try.ntmps62
  go_wp2_with fail
  go_loopw [3] (fun i wr => i = .int .i64 0 ∧ wr = w) (fun _ _ => 0)
  case atStart => exact ⟨rfl, rfl⟩
  case round =>
    obtain ⟨rfl, rfl⟩ := hrel
    go_wp2_with fail
    go_end0
    exact ⟨rfl, rfl⟩
set_option maxRecDepth 100000 in
set_option maxHeartbeats 1000000 in
theorem over_blk (g n c : Nat) (cs : Array Value) (t : TypeId) (w : World) (h : w.heap[g]? = some (.cells cs t (0, 0))) (hc : c ≤ cs.size) (hn : n ≤ c) (h0 : 0 < c) (hm : c ≤ 1000000) (hcn : c ≤ n + 12) :
    Calls Try.prog 62 #[.slice (some ⟨g, 0, none⟩) n c] w fun r w' => r = .returned (.tuple #[]) ∧ Kp (fun b => b = g) w w' := by
  have HH := Lib.hid h
  have HC := Lib.hid hc
  have hcn' : ¬ ((n : Int) + 12 < (c : Int)) := by omega
  clear h hc hcn
  go_enter Try.func62, Try.ntmps62
  go_wp2_with fail
  go_loopw [3] (fun i wr => ∃ (k : Nat) (cur : Array Value), k ≤ c ∧ i = .int .i64 k ∧ Hid (wr.heap[g]? = some (.cells cur t (0, 0))) ∧ Hid (c ≤ cur.size) ∧ Hid (Kp (fun b => b = g) w wr)) (fun i _ => c - (intOf i).toNat)
  case atStart => exact ⟨0, cs, by omega, rfl, HH.out, HC.out, Kp.refl _ _⟩
  case round =>
    obtain ⟨k, cur, hk, rfl, HR, HS, HK⟩ := hrel
    by_cases hlt : k < c
    · obtain ⟨v0, hv0⟩ : ∃ v, wr.cell? ⟨g, k, none⟩ = some v := ⟨cur[k]'(Nat.lt_of_lt_of_le hlt HS.out), (cell_of_row _ _ _ _ _ _ HR.out).trans (Array.getElem?_eq_getElem _)⟩
      have f0 : wr.frozen? ⟨g, k, none⟩ = false := by simp [World.frozen?, HR.out]
      have b1 : (0 : Int) ≤ (k : Int) := by omega
      have b2 : (k : Int) < (c : Int) := by omega
      have HMB : Hid (∀ W, Calls Try.prog 73 #[.int .i64 2, .int .i64 k] W fun e w' => e = .returned (.int .u8 ((mB 2 k : Nat) : Int)) ∧ W = w') := fun W => markByte_any 2 k W (by omega) (by omega)
      have HST : Hid (∀ v, (wr.setCell ⟨g, k, none⟩ v).heap[g]? = some (.cells (cur.setIfInBounds k v) t (0, 0)) ∧ c ≤ (cur.setIfInBounds k v).size ∧ Kp (fun b => b = g) w (wr.setCell ⟨g, k, none⟩ v)) := fun v => ⟨setCell_at HR.out v, by rw [Array.size_setIfInBounds]; exact HS.out, HK.out.setCell (.inl rfl) v⟩
      go_wp2_with fail
      refine (HMB.out _).mono ?_
      rintro e w1 ⟨rfl, rfl⟩
      go_wp2_with fail
      go_roundw
      case rel => exact ⟨k + 1, _, by omega, by go_num, (HST.out _).1, (HST.out _).2.1, (HST.out _).2.2⟩
      case measure => simp [intOf]; omega
    · go_wp2_with fail
      go_end0
      exact ⟨rfl, HK.out⟩
end Go.Proofs.Ytkdphgcbecldbaa
/- Both disks: what they tell. -/
namespace Go.Proofs.Ytkdphgcbecldbaa
open Go.RowKit
def St.rd (s : St) (n : Int) : Option (List Nat) × Int := if s.dn = true then (none, 11) else if n < 0 ∨ (s.k : Int) ≤ n then (none, 2) else (some (see s.ws n.toNat (s.bl n.toNat)), 0)
def St.so (s : St) (n : Int) : Option (List Nat) := if n < 0 ∨ (s.k : Int) ≤ n then none else some (s.bl n.toNat)
/-- what the disk tells: nothing, or a block of its own -/
def Dv (w : World) (v : Value) : Option (List Nat) → Prop
  | none => v = .slice none 0 0
  | some l => ∃ g, v = .slice (some ⟨g, 0, none⟩) 256 256 ∧ w.heap[g]? = some (.cells (bvs l).toArray 93 (0, 0)) ∧ l.length = 256 ∧ Small l
/-- what the document's disk tells -/
def Rw (w : World) (v : Value) : Option (List Nat) → Prop
  | none => v = .slice none 0 0
  | some l => RB w v l
theorem Dv.gr {w w' : World} {v : Value} {o : Option (List Nat)} (h : Dv w v o) (hg : Gr w w') : Dv w' v o := by
  cases o with
  | none => exact h
  | some l =>
    obtain ⟨g, h1, h2, h3, h4⟩ := h
    exact ⟨g, h1, gr_cells h2 hg, h3, h4⟩
theorem Rw.gr {w w' : World} {v : Value} {o : Option (List Nat)} (h : Rw w v o) (hg : Gr w w') : Rw w' v o := by
  cases o with
  | none => exact h
  | some l => exact RB.keep (w := w) (l := l) h fun g cur _ hc => (gr_cells hc hg).trans hc.symm
theorem see_ok {k n : Nat} : ∀ (ws : List (Nat × List Nat)) (b : List Nat), b.length = 256 ∧ Small b → (∀ e, e ∈ ws → e.1 < k ∧ e.2.length = 256 ∧ Small e.2) → (see ws n b).length = 256 ∧ Small (see ws n b)
  | [], _, hb, _ => hb
  | e :: r, b, hb, hw => by
    have he := hw e (List.mem_cons_self ..)
    refine see_ok r (if e.1 = n then e.2 else b) ?_ (fun e' he' => hw e' (List.mem_cons_of_mem _ he'))
    split
    · exact ⟨he.2.1, he.2.2⟩
    · exact hb
theorem d_rd (D : Dk) (n : Int) (w : World) (h : Dsk w D) (hws : D.ws.length ≤ 1000000) :
    Calls Try.prog 32 #[.pointer (some ⟨D.d, 0, none⟩), .int .i64 n] w fun r w' => ∃ v, r = .returned (.tuple #[v, .int .i64 (D.s.rd n).2]) ∧ Gr w w' ∧ Dv w' v (D.s.rd n).1 ∧ (∀ b, v.ownBlock = some b → w.heap.size ≤ b) := by
  have hnil : ∀ b, (Value.slice none 0 0).ownBlock = some b → w.heap.size ≤ b := fun b hb => by simp [Value.ownBlock] at hb
  cases hd : D.dn with
  | true =>
    refine (read_down D n w h hd).mono ?_
    rintro r w' ⟨rfl, hg⟩
    have e : D.s.rd n = (none, 11) := if_pos hd
    rw [e]
    exact ⟨_, rfl, hg, rfl, hnil⟩
  | false =>
    have e0 : ¬ D.s.dn = true := ndn hd
    by_cases hn : n < 0 ∨ (D.k : Int) ≤ n
    · refine (read_out D n w h hd hn).mono ?_
      rintro r w' ⟨rfl, hg⟩
      have e : D.s.rd n = (none, 2) := (if_neg e0).trans (if_pos hn)
      rw [e]
      exact ⟨_, rfl, hg, rfl, hnil⟩
    · obtain ⟨q, rfl⟩ : ∃ q : Nat, n = (q : Int) := ⟨n.toNat, by omega⟩
      refine (read_ok D q w h hd (by omega) hws).mono ?_
      rintro r w' ⟨b, hb, hc, rfl, hg⟩
      have e : D.s.rd q = (some (see D.ws q (D.bl q)), 0) := (if_neg e0).trans (if_neg hn)
      rw [e]
      have hs := see_ok (k := D.k) (n := q) D.ws (D.bl q) (h.bln q (by omega)) h.wsn
      exact ⟨_, rfl, hg, ⟨b, rfl, hc, hs.1, hs.2⟩, fun b' hb' => Nat.le_trans hb (Nat.le_of_eq (by simpa [Value.ownBlock] using hb'))⟩
theorem d_so (D : Dk) (n : Int) (w : World) (h : Dsk w D) :
    Calls Try.prog 29 #[.pointer (some ⟨D.d, 0, none⟩), .int .i64 n] w fun r w' => ∃ v, r = .returned v ∧ Gr w w' ∧ Dv w' v (D.s.so n) ∧ (∀ b, v.ownBlock = some b → w.heap.size ≤ b) := by
  have hnil : ∀ b, (Value.slice none 0 0).ownBlock = some b → w.heap.size ≤ b := fun b hb => by simp [Value.ownBlock] at hb
  by_cases hn : n < 0 ∨ (D.k : Int) ≤ n
  · refine (stored_no D n w h hn).mono ?_
    rintro r w' ⟨rfl, rfl⟩
    have e : D.s.so n = none := if_pos hn
    rw [e]
    exact ⟨_, rfl, Below.refl _ _, rfl, hnil⟩
  · obtain ⟨q, rfl⟩ : ∃ q : Nat, n = (q : Int) := ⟨n.toNat, by omega⟩
    refine (stored_ok D q w h (by omega)).mono ?_
    rintro r w' ⟨rfl, rfl⟩
    have e : D.s.so q = some (D.bl q) := if_neg hn
    rw [e]
    have hs := h.bln q (by omega)
    exact ⟨_, rfl, Gr.at_alloc w _, ⟨_, rfl, heap_alloc_new w _, hs.1, hs.2⟩, fun b' hb' => Nat.le_of_eq (by simpa [Value.ownBlock] using hb')⟩
theorem r_rd (R : Rk) (n : Int) (w : World) (h : Rsk w R) (hws : R.ws.length ≤ 1000000) :
    Calls Try.prog 61 #[.pointer (some ⟨R.r, 0, none⟩), .int .i64 n] w fun r w' => ∃ v, r = .returned (.tuple #[v, .int .i64 (R.s.rd n).2]) ∧ Gr w w' ∧ Rw w' v (R.s.rd n).1 := by
  cases hd : R.dn with
  | true =>
    refine (rread_down R n w h hd).mono ?_
    rintro r w' ⟨rfl, rfl⟩
    have e : R.s.rd n = (none, 11) := if_pos hd
    rw [e]
    exact ⟨_, rfl, Below.refl _ _, rfl⟩
  | false =>
    have e0 : ¬ R.s.dn = true := ndn hd
    by_cases hn : n < 0 ∨ (R.k : Int) ≤ n
    · refine (rread_out R n w h hd hn).mono ?_
      rintro r w' ⟨rfl, rfl⟩
      have e : R.s.rd n = (none, 2) := (if_neg e0).trans (if_pos hn)
      rw [e]
      exact ⟨_, rfl, Below.refl _ _, rfl⟩
    · obtain ⟨q, rfl⟩ : ∃ q : Nat, n = (q : Int) := ⟨n.toNat, by omega⟩
      refine (rread_ok R q w h hd (by omega) hws).mono ?_
      rintro r w' ⟨v, rfl, hg, hb, _⟩
      have e : R.s.rd q = (some (see R.ws q (R.bl q)), 0) := (if_neg e0).trans (if_neg hn)
      rw [e]
      exact ⟨_, rfl, hg, hb⟩
theorem r_so (R : Rk) (n : Int) (w : World) (h : Rsk w R) :
    Calls Try.prog 72 #[.pointer (some ⟨R.r, 0, none⟩), .int .i64 n] w fun r w' => ∃ v, r = .returned v ∧ Gr w w' ∧ Rw w' v (R.s.so n) := by
  by_cases hn : n < 0 ∨ (R.k : Int) ≤ n
  · refine (rstored_no R n w h hn).mono ?_
    rintro r w' ⟨rfl, rfl⟩
    have e : R.s.so n = none := if_pos hn
    rw [e]
    exact ⟨_, rfl, Below.refl _ _, rfl⟩
  · obtain ⟨q, rfl⟩ : ∃ q : Nat, n = (q : Int) := ⟨n.toNat, by omega⟩
    refine (rstored_ok R q w h (by omega)).mono ?_
    rintro r w' ⟨v, rfl, hg, hb, _⟩
    have e : R.s.so q = some (R.bl q) := if_neg hn
    rw [e]
    exact ⟨_, rfl, hg, hb⟩
/-- what both tell is the same -/
theorem same_dr {w : World} {v1 v2 : Value} {o : Option (List Nat)} (h1 : Dv w v1 o) (h2 : Rw w v2 o) : Calls Try.prog 22 #[v1, v2] w fun r w' => r = .returned (.bool true) ∧ Gr w w' := by
  cases o with
  | none =>
    rw [show v1 = .slice none 0 0 from h1, show v2 = .slice none 0 0 from h2]
    refine (same_two none none 0 0 0 0 w.heap.size [] [] w (bs_nil w _) (bs_nil w _)).mono ?_
    rintro e w' ⟨rfl, m, rfl⟩
    exact ⟨rfl, gr_drewN m⟩
  | some l =>
    obtain ⟨g, rfl, hc, hl, hs⟩ := h1
    obtain ⟨g2, c2, rfl, _, _, b2⟩ := RB.bs (w := w) (l := l) h2
    have b1 := bs_cellsT hc hs (by omega)
    rw [hl] at b1
    refine (same_two _ _ 256 256 256 c2 _ l l w b1 b2).mono ?_
    rintro e w' ⟨rfl, m, rfl⟩
    exact ⟨by rw [decide_eq_true rfl], gr_drewN m⟩
/-- what the disk told is written over -/
theorem over_dv {w : World} {v : Value} {o : Option (List Nat)} (h : Dv w v o) : Calls Try.prog 62 #[v] w fun r w' => r = .returned (.tuple #[]) ∧ Kp (fun b => v.ownBlock = some b) w w' := by
  cases o with
  | none =>
    rw [show v = .slice none 0 0 from h]
    refine (over_nil w).mono ?_
    rintro e w' ⟨rfl, rfl⟩
    exact ⟨rfl, Kp.refl _ _⟩
  | some l =>
    obtain ⟨g, rfl, hc, hl, hs⟩ := h
    refine (over_blk g 256 256 _ 93 w hc (by rw [List.size_toArray, bvs_len]; omega) (Nat.le_refl _) (by omega) (by omega) (by omega)).mono ?_
    rintro e w' ⟨rfl, hk⟩
    exact ⟨rfl, hk.mono fun b hb => by rw [hb]; rfl⟩
def St.hurts (s : St) : Nat := ((List.range s.k).filter s.hu).length
section
variable {w0 w w' : World} {D0 : Dk} {R0 : Rk} {s t : St} {d r0 : Nat}
/-- both, as they lie now: a new start -/
theorem Tx.now (h : Tx w0 D0 R0 s t w) : ∃ D R, Tv w0 D0 R0 w D R ∧ D.s = s ∧ R.s = t ∧ D.d = D0.d ∧ R.r = R0.r ∧ Tx w D R s t w := by
  obtain ⟨D, R, h1, h2, h3⟩ := h
  exact ⟨D, R, h1, h2, h3, h1.ed, h1.er, D, R, Tv.refl h1.d h1.r h1.ap, h2, h3⟩
theorem tx_rd (hx : Tx w0 D0 R0 s t w) (n : Int) (hd : D0.d = d) (hws : s.ws.length ≤ 1000000) :
    Calls Try.prog 32 #[.pointer (some ⟨d, 0, none⟩), .int .i64 n] w fun r w' => ∃ v, r = .returned (.tuple #[v, .int .i64 (s.rd n).2]) ∧ Gr w w' ∧ Dv w' v (s.rd n).1 ∧ (∀ b, v.ownBlock = some b → w.heap.size ≤ b) := by
  obtain ⟨D, R, hv, rfl, rfl⟩ := hx
  have h := d_rd D n w hv.d hws
  rw [hv.ed.trans hd] at h
  exact h
theorem tx_so (hx : Tx w0 D0 R0 s t w) (n : Int) (hd : D0.d = d) :
    Calls Try.prog 29 #[.pointer (some ⟨d, 0, none⟩), .int .i64 n] w fun r w' => ∃ v, r = .returned v ∧ Gr w w' ∧ Dv w' v (s.so n) ∧ (∀ b, v.ownBlock = some b → w.heap.size ≤ b) := by
  obtain ⟨D, R, hv, rfl, rfl⟩ := hx
  have h := d_so D n w hv.d
  rw [hv.ed.trans hd] at h
  exact h
theorem tx_st (hx : Tx w0 D0 R0 s t w) (hd : D0.d = d) :
    Calls Try.prog 28 #[.pointer (some ⟨d, 0, none⟩)] w fun r w' => r = .returned (.agg #[.int .i64 s.k, .int .i64 s.ws.length, .int .i64 s.hurts, .int .i64 s.tu, .int .i64 s.cr, .bool s.dn]) ∧ Gr w w' := by
  obtain ⟨D, R, hv, rfl, rfl⟩ := hx
  have h := stat_ok D w hv.d
  rw [hv.ed.trans hd] at h
  exact h
theorem ty_rd (hx : Tx w0 D0 R0 s t w) (n : Int) (hr : R0.r = r0) (hws : t.ws.length ≤ 1000000) :
    Calls Try.prog 61 #[.pointer (some ⟨r0, 0, none⟩), .int .i64 n] w fun r w' => ∃ v, r = .returned (.tuple #[v, .int .i64 (t.rd n).2]) ∧ Gr w w' ∧ Rw w' v (t.rd n).1 := by
  obtain ⟨D, R, hv, rfl, rfl⟩ := hx
  have h := r_rd R n w hv.r hws
  rw [hv.er.trans hr] at h
  exact h
theorem ty_so (hx : Tx w0 D0 R0 s t w) (n : Int) (hr : R0.r = r0) :
    Calls Try.prog 72 #[.pointer (some ⟨r0, 0, none⟩), .int .i64 n] w fun r w' => ∃ v, r = .returned v ∧ Gr w w' ∧ Rw w' v (t.so n) := by
  obtain ⟨D, R, hv, rfl, rfl⟩ := hx
  have h := r_so R n w hv.r
  rw [hv.er.trans hr] at h
  exact h
theorem ty_hu (hx : Tx w0 D0 R0 s t w) (hr : R0.r = r0) :
    Calls Try.prog 71 #[.pointer (some ⟨r0, 0, none⟩)] w fun r w' => r = .returned (.int .i64 t.hurts) ∧ w' = w := by
  obtain ⟨D, R, hv, rfl, rfl⟩ := hx
  have h := rhurts_ok R w hv.r
  rw [hv.er.trans hr] at h
  exact h
theorem ty_ro (hx : Tx w0 D0 R0 s t w) (n bit : Int) (m : Nat) (hr : R0.r = r0) (hm : m < 4294967296) :
    Calls Try.prog 69 #[.pointer (some ⟨r0, 0, none⟩), .int .i64 n, .int .i64 bit, .int .u32 m] w fun r w' => r = .returned (.int .i64 (t.ro n bit m).1) ∧ Tx w0 D0 R0 s (t.ro n bit m).2 w' := by
  obtain ⟨D, R, hv, rfl, rfl⟩ := hx
  have h := r_ro R n bit m w hv.r hm
  rw [hv.er.trans hr] at h
  refine h.mono ?_
  rintro r w' ⟨rfl, R', hm, hs⟩
  exact ⟨rfl, D, R', hv.rv hm, rfl, hs⟩
theorem ty_wi (hx : Tx w0 D0 R0 s t w) (n : Int) (hr : R0.r = r0) :
    Calls Try.prog 70 #[.pointer (some ⟨r0, 0, none⟩), .int .i64 n] w fun r w' => r = .returned (.int .i64 (t.wi n).1) ∧ Tx w0 D0 R0 s (t.wi n).2 w' := by
  obtain ⟨D, R, hv, rfl, rfl⟩ := hx
  have h := r_wi R n w hv.r
  rw [hv.er.trans hr] at h
  refine h.mono ?_
  rintro r w' ⟨rfl, R', hm, hs⟩
  exact ⟨rfl, D, R', hv.rv hm, rfl, hs⟩
/-- blocks that are told since, written over -/
theorem Tx.over {w1 w2 : World} {S : Nat → Prop} (h : Tx w0 D0 R0 s t w) (hg : Gr w w1) (hk : Kp S w1 w2) (hS : ∀ b, S b → w.heap.size ≤ b) : Tx w0 D0 R0 s t w2 := by
  obtain ⟨D, R, hv, h2, h3⟩ := h
  refine ⟨D, R, (hv.gr hg).aside hk fun b hb => ⟨Nat.le_trans hv.kp.size (hS b hb), fun hf => ?_, fun hf => ?_⟩, h2, h3⟩
  · have := hv.d.fp_lt hf
    have := hS b hb
    omega
  · have := hv.r.all_lt hf
    have := hS b hb
    omega
end
end Go.Proofs.Ytkdphgcbecldbaa
/- The law's does (38): a deed done to both: Sync, Arm, Crash. -/
namespace Go.Proofs.Ytkdphgcbecldbaa
open Go.RowKit
def Deed.v (x : Deed) : Value := .agg x.cs.toArray
theorem Tx.cell {w0 w : World} {D0 : Dk} {R0 : Rk} {s t : St} (h : Tx w0 D0 R0 s t w) {b j : Nat} {v : Value} (hb : b < w0.heap.size) (hd : ¬ D0.fp b) (hr : ¬ R0.fp b) (hc : w0.cell? ⟨b, j, none⟩ = some v) : w.cell? ⟨b, j, none⟩ = some v :=
  (h.kp.cell (p := ⟨b, j, none⟩) hb (fun hh => hh.elim hd hr)).trans hc
/-- what a deed is done to -/
structure Both (w : World) (D : Dk) (R : Rk) (s : St) : Prop where
  d : Dsk w D
  r : Rsk w R
  ap : ∀ b, D.fp b → ¬ R.all b
  ds : D.s = s
  rs : R.s = s
def boxed (x : Deed) : Obj := .cells x.cs.toArray 47
theorem Both.box {w : World} {D : Dk} {R : Rk} {s : St} (h : Both w D R s) (x : Deed) : Tx (w.alloc (boxed x)) D R s s (w.alloc (boxed x)) :=
  ⟨D, R, Tv.refl (h.d.gr (Gr.at_alloc w _)) (h.r.gr (Gr.at_alloc w _)) h.ap, h.ds, h.rs⟩
theorem Both.unbox {w w' : World} {D : Dk} {R : Rk} {s s' t' : St} (h : Both w D R s) (x : Deed) (k : Tx (w.alloc (boxed x)) D R s' t' w') : Tx w D R s' t' w' := by
  obtain ⟨D', R', hv, h2, h3⟩ := k
  exact ⟨D', R', ((Tv.refl h.d h.r h.ap).gr (Gr.at_alloc w _)).trans hv, h2, h3⟩
/-- the deed lies in a box -/
def InBox (w : World) (b : Nat) (x : Deed) : Prop := w.cell? ⟨b, 0, none⟩ = some (.int .i64 x.what) ∧ w.cell? ⟨b, 1, none⟩ = some (.int .i64 x.n) ∧ w.cell? ⟨b, 2, none⟩ = some (.slice x.s.a x.s.n x.s.c) ∧ w.cell? ⟨b, 3, none⟩ = some (.int .i64 x.torn) ∧ w.cell? ⟨b, 4, none⟩ = some (.int .i64 x.part) ∧ w.cell? ⟨b, 5, none⟩ = some (.int .u32 x.mask)
theorem Both.inBox {w W : World} {D : Dk} {R : Rk} {s s' t' : St} (h : Both w D R s) (x : Deed) (k : Tx (w.alloc (boxed x)) D R s' t' W) : InBox W w.heap.size x := by
  have hn := heap_alloc_new w (boxed x)
  have hlt := lt_of_heap hn
  have hnd : ¬ D.fp w.heap.size := fun hf => by have := h.d.fp_lt hf; omega
  have hnr : ¬ R.fp w.heap.size := fun hf => by have := h.r.all_lt (.inl hf); omega
  refine ⟨k.cell hlt hnd hnr ?_, k.cell hlt hnd hnr ?_, k.cell hlt hnd hnr ?_, k.cell hlt hnd hnr ?_, k.cell hlt hnd hnr ?_, k.cell hlt hnd hnr ?_⟩ <;> exact (cell_of_row _ _ _ _ _ _ hn).trans rfl
def Done (w : World) (D : Dk) (R : Rk) (s : St) (w' : World) : Prop := ∃ s' : St, Tx w D R s' s' w' ∧ s'.ws.length ≤ s.ws.length + 1 ∧ s'.k = s.k
theorem sy_less (s : St) : s.sy.2.ws.length ≤ s.ws.length + 1 ∧ s.sy.2.k = s.k := by
  unfold St.sy
  split
  · exact ⟨Nat.le_succ _, rfl⟩
  · split
    · exact ⟨Nat.le_succ _, rfl⟩
    · exact ⟨Nat.zero_le _, rfl⟩
theorem am_less (s : St) (n : Int) : (s.am n).ws.length ≤ s.ws.length + 1 ∧ (s.am n).k = s.k := by
  unfold St.am
  split <;> exact ⟨Nat.le_succ _, rfl⟩
theorem cs_less (s : St) : s.cs.2.ws.length ≤ s.ws.length + 1 ∧ s.cs.2.k = s.k := by
  unfold St.cs
  split <;> exact ⟨Nat.le_succ _, rfl⟩
theorem wk_less (s : St) (a b c : Int) : (s.wk a b c).2.ws.length ≤ s.ws.length + 1 ∧ (s.wk a b c).2.k = s.k := by
  unfold St.wk
  split
  · exact ⟨Nat.zero_le _, rfl⟩
  · exact ⟨Nat.le_succ _, rfl⟩
theorem be_less (s : St) (n : Nat) (l : List Nat) : (s.be n l).2.ws.length ≤ s.ws.length + 1 ∧ (s.be n l).2.k = s.k := by
  unfold St.be
  split
  · exact ⟨Nat.le_succ _, rfl⟩
  · split <;> exact ⟨Nat.le_succ _, rfl⟩
theorem ro_less (s : St) (n bit : Int) (m : Nat) : (s.ro n bit m).2.ws.length ≤ s.ws.length + 1 ∧ (s.ro n bit m).2.k = s.k := by
  unfold St.ro
  split
  · exact ⟨Nat.le_succ _, rfl⟩
  · exact be_less _ _ _
theorem wi_less (s : St) (n : Int) : (s.wi n).2.ws.length ≤ s.ws.length + 1 ∧ (s.wi n).2.k = s.k := by
  unfold St.wi
  split
  · exact ⟨Nat.le_succ _, rfl⟩
  · exact be_less _ _ _
theorem wr_less (s : St) (n : Int) (l : List Nat) : (s.wr n l).2.ws.length ≤ s.ws.length + 1 ∧ (s.wr n l).2.k = s.k := by
  unfold St.wr
  split
  · exact ⟨Nat.le_succ _, rfl⟩
  · split
    · exact ⟨Nat.le_succ _, rfl⟩
    · split
      · exact ⟨Nat.le_succ _, rfl⟩
      · exact ⟨by simp, rfl⟩
set_option maxRecDepth 100000 in
set_option maxHeartbeats 2000000 in
theorem does_sy (w : World) (D : Dk) (R : Rk) (s : St) (x : Deed) (h : Both w D R s) (hws : s.ws.length ≤ 1000) (hp : pick x.what 9 = 3) :
    Calls Try.prog 38 #[.pointer (some ⟨D.d, 0, none⟩), .pointer (some ⟨R.r, 0, none⟩), .agg x.cs.toArray] w fun r w' => r = .returned (.bool true) ∧ Done w D R s w' := by
  have HX := Lib.hid (h.box x)
  have HH := Lib.hid h
  have hb := h.inBox x HX.out
  obtain ⟨y0, y1, y2, y3, y4, y5⟩ := hb
  have HPK : Hid (∀ W, Calls Try.prog 21 #[.int .i64 x.what, .int .i64 9] W fun e' w' => e' = .returned (.int .i64 (pick x.what 9)) ∧ W = w') := fun W => pick_any x.what 9 _ (by omega)
  rw [hp] at HPK
  clear h hp
  unfold boxed at HX y0 y1 y2 y3 y4 y5
  go_enter Try.func38, Try.ntmps38
  go_wp2_with fail
  refine (HPK.out _).mono ?_
  rintro e w1 ⟨rfl, rfl⟩
  go_wp2_with fail
  refine (tx_sy HX.out rfl (by omega)).mono ?_
  rintro e w2 ⟨rfl, hx2⟩
  have HX2 := Lib.hid hx2
  clear hx2
  go_wp2_with fail
  refine (ty_sy HX2.out rfl (by omega)).mono ?_
  rintro e w3 ⟨rfl, hx3⟩
  have HX3 := Lib.hid hx3
  clear hx3
  go_wp2_with fail
  go_ret
  exact ⟨by simp, _, HH.out.unbox x HX3.out, sy_less s⟩
set_option maxRecDepth 100000 in
set_option maxHeartbeats 2000000 in
theorem does_cs (w : World) (D : Dk) (R : Rk) (s : St) (x : Deed) (h : Both w D R s) (hp : pick x.what 9 = 5) :
    Calls Try.prog 38 #[.pointer (some ⟨D.d, 0, none⟩), .pointer (some ⟨R.r, 0, none⟩), .agg x.cs.toArray] w fun r w' => r = .returned (.bool true) ∧ Done w D R s w' := by
  have HX := Lib.hid (h.box x)
  have HH := Lib.hid h
  have hb := h.inBox x HX.out
  obtain ⟨y0, y1, y2, y3, y4, y5⟩ := hb
  have HPK : Hid (∀ W, Calls Try.prog 21 #[.int .i64 x.what, .int .i64 9] W fun e' w' => e' = .returned (.int .i64 (pick x.what 9)) ∧ W = w') := fun W => pick_any x.what 9 _ (by omega)
  rw [hp] at HPK
  clear h hp
  unfold boxed at HX y0 y1 y2 y3 y4 y5
  go_enter Try.func38, Try.ntmps38
  go_wp2_with fail
  refine (HPK.out _).mono ?_
  rintro e w1 ⟨rfl, rfl⟩
  go_wp2_with fail
  refine (tx_cs HX.out rfl).mono ?_
  rintro e w2 ⟨rfl, hx2⟩
  have HX2 := Lib.hid hx2
  clear hx2
  go_wp2_with fail
  refine (ty_cs HX2.out rfl).mono ?_
  rintro e w3 ⟨rfl, hx3⟩
  have HX3 := Lib.hid hx3
  clear hx3
  go_wp2_with fail
  go_ret
  exact ⟨by simp, _, HH.out.unbox x HX3.out, cs_less s⟩
set_option maxRecDepth 100000 in
set_option maxHeartbeats 2000000 in
theorem does_am (w : World) (D : Dk) (R : Rk) (s : St) (x : Deed) (h : Both w D R s) (hn : x.n ≤ 9223372036854775807) (hp : pick x.what 9 = 4) :
    Calls Try.prog 38 #[.pointer (some ⟨D.d, 0, none⟩), .pointer (some ⟨R.r, 0, none⟩), .agg x.cs.toArray] w fun r w' => r = .returned (.bool true) ∧ Done w D R s w' := by
  have HX := Lib.hid (h.box x)
  have HH := Lib.hid h
  have hb := h.inBox x HX.out
  obtain ⟨y0, y1, y2, y3, y4, y5⟩ := hb
  have HPK : Hid (∀ W, Calls Try.prog 21 #[.int .i64 x.what, .int .i64 9] W fun e' w' => e' = .returned (.int .i64 (pick x.what 9)) ∧ W = w') := fun W => pick_any x.what 9 _ (by omega)
  rw [hp] at HPK
  clear h hp
  unfold boxed at HX y0 y1 y2 y3 y4 y5
  go_enter Try.func38, Try.ntmps38
  go_wp2_with fail
  refine (HPK.out _).mono ?_
  rintro e w1 ⟨rfl, rfl⟩
  go_wp2_with fail
  refine (tx_am HX.out x.n rfl hn).mono ?_
  rintro e w2 ⟨rfl, hx2⟩
  have z1 := (HH.out.inBox x hx2).2.1
  have HX2 := Lib.hid hx2
  clear hx2
  go_wp2_with fail
  refine (ty_am HX2.out x.n rfl hn).mono ?_
  rintro e w3 ⟨rfl, hx3⟩
  have HX3 := Lib.hid hx3
  clear hx3
  go_wp2_with fail
  go_ret
  exact ⟨rfl, _, HH.out.unbox x HX3.out, am_less s x.n⟩
end Go.Proofs.Ytkdphgcbecldbaa
