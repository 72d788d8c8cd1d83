/- Texts of the proof, one behind the other: Deeds, DevGG, DevHH, RefE, RefF. -/
import Derived.Test.YtkdphgcbecldbaaJm
import Derived.Deep.MidRow
import Derived.Test.YtkdphgcbecldbaaJl
import Derived.Deep.Cut
import Derived.Deep.CutRange
/- What came in, opened: a slice of deeds. -/
namespace Go.Proofs.Ytkdphgcbecldbaa
open Go.ChangeShapes Go.WideShapes Go.ChangeAt Go.RowKit Go.Deep
structure Deed where
  what : Int
  n : Int
  s : Sl
  b : List Nat
  torn : Int
  part : Int
  mask : Nat
instance : Inhabited Deed := ⟨⟨0, 0, ⟨none, 0, 0⟩, [], 0, 0, 0⟩⟩
def Deed.cs (x : Deed) : List Value := [.int .i64 x.what, .int .i64 x.n, x.s.v, .int .i64 x.torn, .int .i64 x.part, .int .u32 x.mask]
def i64 (n : Int) : Prop := -9223372036854775808 ≤ n ∧ n ≤ 9223372036854775807
structure DeedOk (w : World) (B : Nat) (x : Deed) : Prop where
  bs : Bs w B x.s x.b
  len : x.b.length ≤ 140737488351232
  what : i64 x.what
  n : i64 x.n
  torn : i64 x.torn
  part : i64 x.part
  mask : x.mask < 4294967296
/-- the slice reads as the deeds -/
structure Ds (w : World) (B : Nat) (A : Option Addr) (n : Nat) (xs : List Deed) : Prop where
  len : n = xs.length
  max : n ≤ 140737488351232
  at_ : 0 < n → ∃ b o, A = some ⟨b, o, none⟩ ∧ b < B ∧ ∀ i (h : i < xs.length), w.rangeAt b (o + i * 6) xs[i].cs
  ok : ∀ x, x ∈ xs → DeedOk w B x
theorem Ds.below {w w' : World} {B B' : Nat} {A : Option Addr} {n : Nat} {xs : List Deed} (h : Ds w B A n xs) (hb : Below B' w w') (hB : B ≤ B') : Ds w' B A n xs := by
  refine ⟨h.len, h.max, fun hn => ?_, fun x hx => ?_⟩
  · obtain ⟨b, o, e, hlt, hc⟩ := h.at_ hn
    exact ⟨b, o, e, hlt, fun i hi j v hv => (hb.cell (p := ⟨b, o + i * 6 + j, none⟩) (by simp only; omega)).trans (hc i hi j v hv)⟩
  · have k := h.ok x hx
    exact ⟨k.bs.below hb hB, k.len, k.what, k.n, k.torn, k.part, k.mask⟩
theorem bytes47 : Try.prog.bytesOf 47 = 64 := by kernel_rfl
theorem cells47 : Try.prog.cellsOf 47 = 6 := by kernel_rfl
theorem cells3 : Try.prog.cellsOf 3 = 1 := by kernel_rfl
theorem cells23 : Try.prog.cellsOf 23 = 1 := by kernel_rfl
theorem i64_of {n : Int} (h : (Lit.int .i64 n).wf = true) : i64 n := by
  have := bounds_i64 h
  unfold i64
  omega
set_option maxRecDepth 100000 in
theorem open40 {H : Type} {enc : TypeId × Value → H} {W : World} {ts : List TypeId} {ds : List (DataW H)} (hsz : (DataW.weightsEach Try.prog ts ds).all (· ≤ reachBytes) = true)
    {j : Nat} (ht : ts[j]? = some 40) {d : DataW H} (hd : ds[j]? = some d) {a : Option Addr} {n c : Nat} {p : List MemPlace} (h : DataW.Trod enc Try.prog W 0 (fun _ => true) true 40 (.slice a n c) d p) :
    ∃ xs, Ds W W.heap.size a n xs ∧ n ≤ c ∧ True := by
  obtain ⟨fuel, hf⟩ := h
  rcases open_slice Try.underlying40 hf with ⟨hcs, _⟩ | ⟨x, l, cp, m, n', D, Pl, hcs, _, hl, hm, hmm, hx, hrow⟩
  · simp [Value.cells] at hcs
    obtain ⟨rfl, rfl, rfl⟩ := hcs
    exact ⟨[], ⟨rfl, by omega, fun h => absurd h (by omega), by simp⟩, by omega, trivial⟩
  · simp [Value.cells] at hcs
    obtain ⟨rfl, rfl, rfl⟩ := hcs
    simp only [if_true] at hmm
    subst hmm
    simp only [Prod.mk.injEq] at hx
    have hd' := hd.trans (congrArg some hx.1)
    have hr := sized_slice hsz (j := j) (t := 40) (e := 47) ht hd' Try.underlying40
    rw [bytes47] at hr
    simp only [List.length_map, List.length_range, reachBytes] at hr
    have each : ∀ i, i < n → ∃ y : Deed, (∀ (k : Nat) (v : Value), y.cs[k]? = some v → W.cell? (x.add (i * 6 + k)) = some v) ∧ DeedOk W W.heap.size y := by
      intro i hi
      obtain ⟨cs', h1, h2⟩ := hrow i (by omega)
      rw [cells47] at h1
      obtain ⟨_, hlen, hcell⟩ := World.cells?_some h1
      obtain ⟨ys, k, hk, hxy, _, hyl, hf⟩ := DataW.trod_struct Try.underlying47 h2
      match ys, hyl, cs', hlen with
      | [y0, y1, y2, y3, y4, y5], _, [v0, v1, v2, v3, v4, v5], _ =>
        have g0 := hf 0 _ rfl
        have g1 := hf 1 _ rfl
        have g2 := hf 2 _ rfl
        have g3 := hf 3 _ rfl
        have g4 := hf 4 _ rfl
        have g5 := hf 5 _ rfl
        simp [cells3, cells24, cells23] at g0 g1 g2 g3 g4 g5
        have c0 := hcell 0 (by omega)
        have c1 := hcell 1 (by omega)
        have c2 := hcell 2 (by omega)
        have c3 := hcell 3 (by omega)
        have c4 := hcell 4 (by omega)
        have c5 := hcell 5 (by omega)
        rw [add_add] at c0 c1 c2 c3 c4 c5
        obtain ⟨n0, e0, _, w0⟩ := DataW.trod_int Try.underlying3 g0
        obtain ⟨n1, e1, _, w1⟩ := DataW.trod_int Try.underlying3 g1
        obtain ⟨n3, e3, _, w3⟩ := DataW.trod_int Try.underlying3 g3
        obtain ⟨n4, e4, _, w4⟩ := DataW.trod_int Try.underlying3 g4
        obtain ⟨n5, e5, _, w5⟩ := DataW.trod_int Try.underlying23 g5
        obtain ⟨m5, hm5, rfl⟩ := nat_u32 w5
        simp only [List.cons.injEq, and_true] at e0 e1 e3 e4 e5
        subst e0 e1 e3 e4 e5
        have hD : D i = .agg [y0.1, y1.1, y2.1, y3.1, y4.1, y5.1] := (Prod.mk.inj hxy).1
        obtain ⟨s2, b2, es, hbs, hbl⟩ : ∃ (s2 : Sl) (b2 : List Nat), v2 = s2.v ∧ Bs W W.heap.size s2 b2 ∧ b2.length ≤ 140737488351232 := by
          rcases open_ints Try.underlying24 Try.underlying5 cells5 g2 with ⟨hcs, _⟩ | ⟨x2, l2, cp2, zs, hcs, _, hl2, hm2, hz, hx2, hc2, hw2⟩
          · simp only [List.cons.injEq, and_true] at hcs
            exact ⟨⟨none, 0, 0⟩, [], hcs, bs_nil W _, by simp⟩
          · simp only [List.cons.injEq, and_true] at hcs
            simp only [if_true] at hz
            refine ⟨⟨some x2, l2, cp2⟩, _, hcs, bs_of_ints hl2 hm2 hz hc2 hw2 (Nat.le_refl _), ?_⟩
            have hmem : cp2 * Try.prog.bytesOf 5 ∈ DataW.weightsEach Try.prog ts ds := by
              refine DataW.weights_mem_each ht hd' _ ?_
              simp only [DataW.weights, Try.underlying40, List.mem_cons, List.mem_append]
              refine Or.inr (Or.inl (weights_mem_all (i := i) (d := D i) ?_ _ ?_))
              · rw [List.getElem?_map, List.getElem?_range hi]; rfl
              · rw [hD, hx2]
                simp only [DataW.weights, Try.underlying47, List.map_cons, List.map_nil, DataW.weightsEach, Try.underlying24, List.mem_append, List.mem_cons]
                refine Or.inr (Or.inr (Or.inl (Or.inl ?_)))
                simp only [lits, List.length_map, List.length_take, List.length_drop]
                congr 1
                omega
            have := List.all_eq_true.1 hsz _ hmem
            rw [bytes5] at this
            simp [reachBytes] at this
            rw [List.length_map, List.length_take]
            omega
        subst es
        refine ⟨⟨n0, n1, s2, b2, n3, n4, m5⟩, fun k v hv => ?_, ⟨hbs, hbl, i64_of w0, i64_of w1, i64_of w3, i64_of w4, hm5⟩⟩
        match k with
        | 0 => exact c0.trans hv
        | 1 => exact c1.trans hv
        | 2 => exact c2.trans hv
        | 3 => exact c3.trans hv
        | 4 => exact c4.trans hv
        | 5 => exact c5.trans hv
        | k + 6 => cases hv
    obtain ⟨Y, hY⟩ := choose_lt each
    refine ⟨(List.range n).map Y, ⟨by simp, by omega, fun h0 => ?_, fun y hy => ?_⟩, by omega, trivial⟩
    · have hx0 := (hY 0 h0).1 0 _ rfl
      rw [Nat.zero_mul, Nat.zero_add, Addr.add, if_pos rfl] at hx0
      obtain ⟨e, hlt⟩ := plain_of_cell hx0
      refine ⟨x.block, x.off, congrArg some e, hlt, fun i hi k v hv => ?_⟩
      rw [List.length_map, List.length_range] at hi
      have e' : ((List.range n).map Y)[i] = Y i := by simp
      rw [e'] at hv
      have := (hY i hi).1 k v hv
      rw [e, Addr.add_lit] at this
      rw [Nat.add_assoc]
      exact this
    · obtain ⟨i, hi, rfl⟩ := List.mem_map.1 hy
      exact (hY i (List.mem_range.1 hi)).2
end Go.Proofs.Ytkdphgcbecldbaa
/- The laws of layer 3: are deeds more than is gone through? (24) -/
namespace Go.Proofs.Ytkdphgcbecldbaa
open Go.RowKit
def gs (xs : List Deed) (k : Nat) : Nat := ((xs.take k).map (fun x => x.b.length)).sum
theorem gs_succ (xs : List Deed) (k : Nat) (h : k < xs.length) : gs xs (k + 1) = gs xs k + xs[k].b.length := by
  unfold gs
  rw [List.take_succ_eq_append_getElem h, List.map_append, List.sum_append]
  simp
theorem gs_le {w : World} {B : Nat} {xs : List Deed} (h : ∀ x, x ∈ xs → DeedOk w B x) : ∀ k, k ≤ xs.length → gs xs k ≤ k * 140737488351232
  | 0, _ => by simp [gs]
  | k + 1, hk => by
    rw [gs_succ xs k (by omega)]
    have := gs_le h k (by omega)
    have := (h xs[k] (List.getElem_mem _)).len
    omega
def greatB (blocks : Int) (xs : List Deed) : Bool := decide (120 < xs.length) || decide (10000 < gs xs (min xs.length 120)) || (decide (40 < blocks) && decide (blocks ≤ 4096))
/-- a deed's cells -/
theorem Ds.cell {w : World} {B : Nat} {A : Option Addr} {n : Nat} {xs : List Deed} (h : Ds w B A n xs) {i : Nat} (hi : i < xs.length) : ∃ b o, A = some ⟨b, o, none⟩ ∧ b < B ∧
    w.cell? ⟨b, o + i * 6, none⟩ = some (.int .i64 xs[i].what) ∧ w.cell? ⟨b, o + i * 6 + 1, none⟩ = some (.int .i64 xs[i].n) ∧ w.cell? ⟨b, o + i * 6 + 2, none⟩ = some xs[i].s.v ∧
    w.cell? ⟨b, o + i * 6 + 3, none⟩ = some (.int .i64 xs[i].torn) ∧ w.cell? ⟨b, o + i * 6 + 4, none⟩ = some (.int .i64 xs[i].part) ∧ w.cell? ⟨b, o + i * 6 + 5, none⟩ = some (.int .u32 xs[i].mask) := by
  obtain ⟨b, o, e, hb, hc⟩ := h.at_ (by have := h.len; omega)
  have k := hc i hi
  exact ⟨b, o, e, hb, k 0 _ rfl, k 1 _ rfl, k 2 _ rfl, k 3 _ rfl, k 4 _ rfl, k 5 _ rfl⟩
set_option maxRecDepth 100000 in
set_option maxHeartbeats 2000000 in
theorem great_ok (blocks : Int) (A : Option Addr) (n c : Nat) (xs : List Deed) (B : Nat) (w : World) (h : Ds w B A n xs) (hb : i64 blocks) :
    Calls Try.prog 24 #[.int .i64 blocks, .slice A n c] w fun r w' => r = .returned (.bool (greatB blocks xs)) ∧ w' = w := by
  have HN := Lib.hid h.len
  have hmx := h.max
  have HH := Lib.hid h
  obtain ⟨hb1, hb2⟩ := hb
  have HG := Lib.hid (gs_le h.ok)
  clear h
  go_enter Try.func24, Try.ntmps24
  go_wp2_with fail
  go_loopw [5, 6] (fun s i wr => ∃ k : Nat, k ≤ n ∧ k ≤ 120 ∧ i = .int .i64 k ∧ s = .int .i64 (gs xs k : Nat) ∧ wr = w) (fun _ i _ => 120 - (intOf i).toNat)
  case atStart => exact ⟨0, by omega, by omega, rfl, rfl, rfl⟩
  case round =>
    obtain ⟨k, hk, hk2, rfl, rfl, rfl⟩ := hrel
    have hgk := HG.out k (by have := HN.out; omega)
    have hgk' : (gs xs k : Int) ≤ 120 * 140737488351232 := by omega
    by_cases hlt : k < n
    · by_cases hl2 : k < 120
      · have hkx : k < xs.length := by have := HN.out; omega
        obtain ⟨b, o, rfl, hbB, c0, c1, c2, c3, c4, c5⟩ := HH.out.cell (i := k) hkx
        have hs := gs_succ xs k hkx
        have hbs := (HH.out.ok xs[k] (List.getElem_mem _)).bs.1
        have hbl := (HH.out.ok xs[k] (List.getElem_mem _)).len
        rw [← hbs] at hs hbl
        have HS := Lib.hid hs
        clear hs hbs
        generalize xs[k] = e at *
        clear hkx
        have b1 : (0 : Int) ≤ (k : Int) := by omega
        have b2 : (k : Int) < (n : Int) := by omega
        unfold Sl.v at c2
        go_wp2_with fail
        go_roundw
        case rel => exact ⟨k + 1, by omega, by omega, by go_num, by rw [HS.out]; exact ⟨by rw [Int.natCast_add], trivial⟩⟩
        case measure => simp [intOf]; omega
      · have hm : min xs.length 120 = k := by have := HN.out; omega
        have hgb : greatB blocks xs = (decide (120 < (n : Int)) || decide (10000 < (gs xs k : Int)) || (decide (40 < blocks) && decide (blocks ≤ 4096))) := by
          unfold greatB
          rw [hm, ← HN.out]
          congr 1
          congr 1
          · exact decide_eq_decide.2 (by omega)
          · exact decide_eq_decide.2 (by omega)
        have HGB := Lib.hid hgb
        clear hgb hm
        go_wp2_with fail
        all_goals (
          go_ret
          refine ⟨?_, rfl⟩
          rw [HGB.out]
          refine congrArg (fun x => Ending.returned (Value.bool x)) ?_
          clear HGB HG HN
          first | rfl | (simp [*]; done) | (simp; omega))
    · have hm : min xs.length 120 = k := by have := HN.out; omega
      have hgb : greatB blocks xs = (decide (120 < (n : Int)) || decide (10000 < (gs xs k : Int)) || (decide (40 < blocks) && decide (blocks ≤ 4096))) := by
        unfold greatB
        rw [hm, ← HN.out]
        congr 1
        congr 1
        · exact decide_eq_decide.2 (by omega)
        · exact decide_eq_decide.2 (by omega)
      have HGB := Lib.hid hgb
      clear hgb hm
      go_wp2_with fail
      all_goals (
        go_ret
        refine ⟨?_, rfl⟩
        rw [HGB.out]
        refine congrArg (fun x => Ending.returned (Value.bool x)) ?_
        clear HGB HG HN
        first | rfl | (simp [*]; done) | (simp; omega))
end Go.Proofs.Ytkdphgcbecldbaa
/- The laws of layer 3: padded (33). -/
namespace Go.Proofs.Ytkdphgcbecldbaa
open Go.RowKit
theorem splice_take (l : List Nat) : splice (bvs (Z 256)) 0 (bvs (l.take 256)) = bvs (pad (l.take 256)) := by
  unfold splice pad
  rw [List.take_zero, List.nil_append, Nat.zero_add, bvs_append]
  congr 1
  have h : (bvs (l.take 256)).length = (l.take 256).length := bvs_len _
  rw [h]
  unfold Z
  rw [← bvs_drop, List.drop_replicate]
set_option maxRecDepth 100000 in
set_option maxHeartbeats 1000000 in
theorem padded_ok (A : Option Addr) (len c : Nat) (l : List Nat) (B : Nat) (w : World) (hb : Bs w B ⟨A, len, c⟩ l) (hlen : len ≤ 140737488351232) :
    Calls Try.prog 33 #[.slice A len c] w fun r w' => Gr w w' ∧ ((len ≤ 256 ∧ ∃ b, w.heap.size ≤ b ∧ r = .returned (.slice (some ⟨b, 0, none⟩) 256 256) ∧ w'.heap[b]? = some (.cells (bvs (pad l)).toArray 5 (0, 0))) ∨ (256 < len ∧ r = .returned (.slice none 0 0))) := by
  have hll : l.length = len := hb.1.symm
  have hmk : ∀ W : World, (Instr.makeSlice 24 (.int .i64 256) (.int .i64 256)).run Try.prog W = .ok (.slice (some ⟨W.heap.size, 0, none⟩) 256 256) (W.alloc (.cells (bvs (Z 256)).toArray 5)) := make24 256 (by decide)
  have hsrc : ∀ ad, A = some ad → ∀ j u, (bvs (l.take 256))[j]? = some u → (w.alloc (.cells (bvs (Z 256)).toArray 5)).cell? (ad.add j) = some u := by
    intro ad had j u hu
    obtain ⟨hj, rfl⟩ := bvs_at hu
    have hj2 : j < l.length := by rw [List.length_take] at hj; omega
    obtain ⟨b, o, hA, hbB, hx⟩ := hb.at_ (show 0 < len by omega)
    simp only at hA
    have e : ad = ⟨b, o, none⟩ := by rw [had] at hA; injection hA
    subst e
    have hx' := hx j (show j < len by omega)
    rw [Addr.add_lit, Below.cell (Gr.at_alloc w _) (World.block_lt_of_cell? w _ hx'), hx']
    rw [List.getD_eq_getElem?_getD, List.getD_eq_getElem?_getD, List.getElem?_take, if_pos (by rw [List.length_take] at hj; omega)]
  have HCUR := Lib.hid (heap_alloc_new w (.cells (bvs (Z 256)).toArray 5))
  have HGR := Lib.hid (Gr.at_alloc w (.cells (bvs (Z 256)).toArray 5))
  have HSRC := Lib.hid hsrc
  have HL := Lib.hid hll
  have HB := Lib.hid hb
  clear hsrc hll hb
  go_enter Try.func33, Try.ntmps33
  go_wp2_with (refine wpList_copy_splice (o := ⟨some 7, _, _, _, _, _⟩) rfl (.tmp 5) (.tmp 6) 24 24 rfl 5 Try.underlying24 size5 (some ⟨w.heap.size, 0, none⟩) A 256 256 len c rfl rfl w.heap.size 0 (bvs (Z 256)) 5 HCUR.out (bvs (l.take 256)) ?cn ?cp ?cf (bvs_one _) w.heap.size w HGR.out (Nat.le_refl _) ?_)
  case cn => rw [bvs_len, List.length_take, HL.out, Nat.min_comm]
  case cp =>
    intro hpos
    rw [bvs_len, List.length_take, HL.out] at hpos
    obtain ⟨b, o, hA, _⟩ := HB.out.at_ (show 0 < len by omega)
    exact ⟨_, hA, HSRC.out _ hA⟩
  case cf => rw [bvs_len, List.length_take, bvs_len, Z_len]; omega
  intro w2 hw2 hg2
  have hw2' : w2.heap[w.heap.size]? = some (.cells (bvs (pad (l.take 256))).toArray 5 (0, 0)) := by
    have := hw2.out
    rw [splice_take] at this
    exact this
  have HX := Lib.hid hw2'
  have HG2 : Hid (Gr w w2) := Lib.hid hg2
  clear hw2 hg2 hw2' HCUR HGR HSRC hmk HB
  by_cases h3 : len ≤ 256
  · go_wp2_with fail
    go_ret
    refine ⟨HG2.out, .inl ⟨h3, _, Nat.le_refl _, rfl, ?_⟩⟩
    have := HX.out
    rw [List.take_of_length_le (by rw [HL.out]; exact h3)] at this
    exact this
  · have h4 : (256 : Int) < len := by omega
    go_wp2_with fail
    go_ret
    exact ⟨HG2.out, .inr ⟨by omega, rfl⟩⟩
end Go.Proofs.Ytkdphgcbecldbaa
/- The document's disk: Write (63). -/
namespace Go.Proofs.Ytkdphgcbecldbaa
open Go.RowKit
theorem info130 : (Try.prog.info? 130).map (fun i => (i.zero, i.size, i.bytes)) = some (some (.agg #[.int .i64 0, .slice none 0 0]), 2, 32) := by kernel_rfl
set_option maxRecDepth 100000 in
set_option maxHeartbeats 2000000 in
theorem rwrite_down (R : Rk) (n : Int) (v : Value) (w : World) (h : Rsk w R) (hd : R.dn = true) : Calls Try.prog 63 #[.pointer (some ⟨R.r, 0, none⟩), .int .i64 n, v] w fun r w' => r = .returned (.int .i64 11) ∧ w' = w := by
  have c5 := h.c5
  rw [hd] at c5
  clear h hd
  go_enter Try.func63, Try.ntmps63
  go_wp2_with fail
  go_ret
  exact ⟨rfl, rfl⟩
set_option maxRecDepth 100000 in
set_option maxHeartbeats 2000000 in
theorem rwrite_out (R : Rk) (n : Int) (A : Option Addr) (len c : Nat) (w : World) (h : Rsk w R) (hd : R.dn = false) (hn : n < 0 ∨ (R.k : Int) ≤ n ∨ 256 < len) : Calls Try.prog 63 #[.pointer (some ⟨R.r, 0, none⟩), .int .i64 n, .slice A len c] w fun r w' => r = .returned (.int .i64 2) ∧ w' = w := by
  have c5 := h.c5
  rw [hd] at c5
  have HT := Lib.hid (rthere_any R n w h)
  clear h hd
  by_cases ht : 0 ≤ n ∧ n < R.k
  · have HD := Lib.hid (decide_eq_true ht)
    have hl : (256 : Int) < (len : Int) := by omega
    clear hn ht
    go_enter Try.func63, Try.ntmps63
    go_wp2_with fail
    refine HT.out.mono ?_
    rintro e w1 ⟨rfl, rfl⟩
    rw [HD.out]
    go_wp2_with fail
    go_ret
    exact ⟨rfl, rfl⟩
  · have HD := Lib.hid (decide_eq_false ht)
    clear hn ht
    go_enter Try.func63, Try.ntmps63
    go_wp2_with fail
    refine HT.out.mono ?_
    rintro e w1 ⟨rfl, rfl⟩
    rw [HD.out]
    go_wp2_with fail
    go_ret
    exact ⟨rfl, rfl⟩
set_option maxRecDepth 100000 in
set_option maxHeartbeats 2000000 in
theorem rwrite_fall (R : Rk) (n : Int) (A : Option Addr) (len c : Nat) (w : World) (h : Rsk w R) (hd : R.dn = false) (h0 : 0 ≤ n) (h1 : n < R.k) (hl : len ≤ 256) (ha : R.ar = 1) : Calls Try.prog 63 #[.pointer (some ⟨R.r, 0, none⟩), .int .i64 n, .slice A len c] w fun r w' => r = .returned (.int .i64 11) ∧ Rv w R w' R.fall := by
  have c5 := h.c5
  rw [hd] at c5
  have HT := Lib.hid (rthere_any R n w h)
  have HD := Lib.hid (decide_eq_true (show 0 ≤ n ∧ n < R.k from ⟨h0, h1⟩))
  have HN := Lib.hid (rturn_no R w h ha)
  have hl' : (len : Int) ≤ 256 := by omega
  clear h hd ha
  go_enter Try.func63, Try.ntmps63
  go_wp2_with fail
  refine HT.out.mono ?_
  rintro e w1 ⟨rfl, rfl⟩
  rw [HD.out]
  go_wp2_with fail
  refine HN.out.mono ?_
  rintro e w2 ⟨rfl, hm⟩
  have HM := Lib.hid hm
  clear hm
  go_wp2_with fail
  go_ret
  exact ⟨rfl, HM.out⟩
set_option maxRecDepth 100000 in
set_option maxHeartbeats 4000000 in
theorem rwrite_ok (R : Rk) (n : Nat) (A : Option Addr) (len c : Nat) (l : List Nat) (B : Nat) (w : World) (h : Rsk w R) (hb : Bs w B ⟨A, len, c⟩ l) (hB : B ≤ w.heap.size) (hf : 0 < len → ∀ b o, A = some ⟨b, o, none⟩ → ¬ R.fp b) (hd : R.dn = false) (hn : n < R.k) (hl : len ≤ 256) (ha : ¬ R.ar = 1) (hws : R.ws.length ≤ 1000000) :
    Calls Try.prog 63 #[.pointer (some ⟨R.r, 0, none⟩), .int .i64 n, .slice A len c] w fun r w' => r = .returned (.int .i64 0) ∧ ∃ wv' wl', Rv w R w' { R.turn with wv := wv', ws := R.ws ++ [(n, pad l)], wl := wl' } := by
  have c5 := h.c5
  rw [hd] at c5
  have b1 : (0 : Int) ≤ (n : Int) := by omega
  have b2 : (n : Int) < (R.k : Int) := by omega
  have HT := Lib.hid (rthere_any R n w h)
  have HD := Lib.hid (decide_eq_true (show 0 ≤ (n : Int) ∧ (n : Int) < R.k from ⟨b1, b2⟩))
  have HN := Lib.hid (rturn_yes R w h ha)
  have hl' : (len : Int) ≤ 256 := by omega
  have HF := Lib.hid hf
  have HB := Lib.hid hb
  have HLE := Lib.hid hB
  have hmk : ∀ W : World, (Instr.makeSlice 24 (.int .i64 256) (.int .i64 256)).run Try.prog W = .ok (.slice (some ⟨W.heap.size, 0, none⟩) 256 256) (W.alloc (.cells (bvs (Z 256)).toArray 5)) := make24 256 (by decide)
  obtain ⟨i1, hi1, hz1, hs1, hy1⟩ := info_parts info130
  have I1 := Lib.hid (And.intro hi1 (And.intro hz1 (And.intro hs1 hy1)))
  clear h hd ha hf hb hB hi1 hz1 hs1 hy1
  go_enter Try.func63, Try.ntmps63
  go_wp2_with fail
  refine HT.out.mono ?_
  rintro e w1 ⟨rfl, rfl⟩
  rw [HD.out]
  go_wp2_with fail
  refine HN.out.mono ?_
  rintro e w2 ⟨rfl, hm⟩
  have hbelow : ∀ b, b < w1.heap.size → ¬ R.fp b → w2.heap[b]? = w1.heap[b]? := fun b hb hn => hm.kp.block b hb hn
  have hsrc : ∀ ad, A = some ad → ∀ j u, (bvs l)[j]? = some u → (w2.alloc (.cells (bvs (Z 256)).toArray 5)).cell? (ad.add j) = some u := by
    intro ad had j u hu
    obtain ⟨hj, rfl⟩ := bvs_at hu
    have hll := HB.out.1
    simp only at hll
    obtain ⟨b, o, hA, hbB, hx⟩ := HB.out.at_ (show 0 < len by omega)
    simp only at hA
    have e : ad = ⟨b, o, none⟩ := by rw [had] at hA; injection hA
    subst e
    have hx' := hx j (show j < len by omega)
    have hlt : b < w1.heap.size := Nat.lt_of_lt_of_le hbB HLE.out
    have k1 : w2.cell? ⟨b, o + j, none⟩ = some (.int .u8 ((l.getD j 0 : Nat) : Int)) := (World.cell?_of_block (hbelow b hlt (HF.out (by omega) b o had))).trans hx'
    rw [Addr.add_lit, Below.cell (Gr.at_alloc w2 _) (World.block_lt_of_cell? w2 _ k1)]
    exact k1
  have HM := Lib.hid hm
  have HSRC := Lib.hid hsrc
  have HCUR := Lib.hid (heap_alloc_new w2 (.cells (bvs (Z 256)).toArray 5))
  have HGR := Lib.hid (Gr.at_alloc w2 (.cells (bvs (Z 256)).toArray 5))
  clear hm hbelow hsrc
  go_wp2_with (refine wpList_copy_splice (o := ⟨some 27, _, _, _, _, _⟩) rfl (.tmp 25) (.tmp 26) 24 24 rfl 5 Try.underlying24 size5 (some ⟨w2.heap.size, 0, none⟩) A 256 256 len c rfl rfl w2.heap.size 0 (bvs (Z 256)) 5 HCUR.out (bvs l) ?cn ?cp ?cf (bvs_one _) w2.heap.size w2 HGR.out (Nat.le_refl _) ?_)
  case cn => rw [bvs_len, ← HB.out.1]; exact (Nat.min_eq_left hl).symm
  case cp =>
    intro hpos
    rw [bvs_len, ← HB.out.1] at hpos
    obtain ⟨b, o, hA, _⟩ := HB.out.at_ hpos
    exact ⟨_, hA, HSRC.out _ hA⟩
  case cf => rw [bvs_len, ← HB.out.1, bvs_len, Z_len]; simp only; omega
  intro w3 hw3 hg3
  have hlen : l.length ≤ 256 := by rw [← HB.out.1]; exact hl
  have hw3' : w3.heap[w2.heap.size]? = some (.cells (bvs (pad l)).toArray 5 (0, 0)) := by
    have := hw3.out
    have hst := splice_take l
    rw [List.take_of_length_le hlen] at hst
    rw [hst] at this
    exact this
  have HG3 : Hid (Gr w2 w3) := hg3
  have HRB : Hid (RB w3 (.slice (some ⟨w2.heap.size, 0, none⟩) 256 256) (pad l)) := ⟨w2.heap.size, 256, (bvs (pad l)).toArray, rfl, by omega, by omega, hw3', by rw [List.take_of_length_le (by rw [List.toList_toArray, bvs_len, pad_len hlen]; exact Nat.le_refl _)], pad_len hlen, small_pad HB.out.2.1⟩
  have HM3 := Lib.hid (HM.out.trans (Rv.gr HM.out.sk HG3.out))
  clear hw3 hg3 hw3' HCUR HGR HSRC hmk
  have c1 : w3.cell? ⟨R.r, 1, none⟩ = some R.wv := HM3.out.sk.c1
  have hsz3 : R.r < w3.heap.size := lt_of_heap HM3.out.sk.row
  have HOWN : Hid (w3.ownsRow R.base 130 2 R.wv R.ws.length (rrow R.ws R.wl)) := HM3.out.sk.own
  have HBASE : Hid (R.base ≤ w3.heap.size) := HM3.out.sk.o3
  have HSZ := Lib.hid hsz3
  clear hsz3
  have HGX : Hid (w1.heap.size ≤ w2.heap.size) := HM.out.kp.size
  generalize w2.heap.size = gx at *
  go_wp2_with (at_builtin; refine wpList_append_own_at _ rfl (.tmp 32) (.tmp 36) 101 rfl R.base 130 i1 _ 2 32 Try.underlying101 I1.out.1 I1.out.2.1 I1.out.2.2.1 I1.out.2.2.2 rfl (by decide) R.wv R.ws.length _ rfl (HOWN.out.alloc _) ⟨w3.heap.size, 0, none⟩ 1 1 [.int .i64 n, .slice (some ⟨gx, 0, none⟩) 256 256] rfl rfl ?d1 ?d2 ?d3 ?d4 ?d5 ?_)
  case d1 => exact World.news_of_block (cs := #[.int .i64 n, .slice (some ⟨gx, 0, none⟩) 256 256]) (t := 130) (fr := (0, 0)) (heap_alloc_new w3 _)
  case d2 =>
    intro u hu
    rcases List.mem_cons.1 hu with rfl | hu
    · rfl
    · rw [List.mem_singleton.1 hu]; rfl
  case d3 => unfold maxLen; omega
  case d4 => omega
  case d5 => have := HBASE.out; rw [World.size_alloc]; omega
  intro v' w4 hown4 hg4 _ hat
  obtain ⟨g', cap', rfl⟩ := ownsRow_succ hown4
  have hrn : some R.r ≠ R.wv.ownBlock := fun e => by
    obtain ⟨_, cur, hc⟩ := HM3.out.sk.own_ge (show R.turn.wv.ownBlock = some R.r from e.symm)
    exact ne_of_type HM3.out.sk.row hc (by decide) rfl
  have hsame : w4.heap[R.r]? = w3.heap[R.r]? := (hg4.block R.r (by rw [World.size_alloc]; have := HSZ.out; omega) hrn).trans (Below.heap_alloc w3 _ R.r HSZ.out)
  have c4 : w4.cell? ⟨R.r, 1, none⟩ = some R.wv := (World.cell?_of_block hsame).trans c1
  have f4 : w4.frozen? ⟨R.r, 1, none⟩ = false := (World.frozen?_of_block hsame).trans (HM3.out.sk.f 1)
  have hfin := Rv.app HM3.out (n := n) (l := pad l) hn HRB.out (fun b hb => by
    have e : gx = b := by simpa [Value.ownBlock] using hb
    have := HGX.out
    omega) hown4 hg4 hat
  have HFIN := Lib.hid hfin
  clear hown4 hg4 hat hsame hrn hfin
  go_wp2_with fail
  go_ret
  exact ⟨rfl, _, _, HFIN.out⟩
end Go.Proofs.Ytkdphgcbecldbaa
/- The document's disk: store (82). -/
namespace Go.Proofs.Ytkdphgcbecldbaa
open Go.RowKit
def Rk.st (R : Rk) (n : Nat) (l : List Nat) (many : Nat) (vl' : Nat → Value) : Rk := { R with vl := vl', bl := upd R.bl n (over (l.take (32 * many)) (R.bl n)), hu := if many = 8 then upd R.hu n false else R.hu }
theorem splice_over {cur p : List Nat} {cs : List Value} {b : List Nat} (h : cs.take 256 = bvs b) (hb : b.length = 256) (hp : p.length ≤ 256) (hc : cur = p) : (splice cs 0 (bvs cur)).take 256 = bvs (over p b) := by
  subst hc
  have hcl : 256 ≤ cs.length := by
    have := congrArg List.length h
    rw [List.length_take, bvs_len, hb] at this
    omega
  apply List.ext_getElem?
  intro i
  unfold splice over
  rw [List.take_zero, List.nil_append, Nat.zero_add, bvs_append, bvs_drop, bvs_len, List.getElem?_take]
  by_cases hi : i < 256
  · rw [if_pos hi]
    by_cases hj : i < cur.length
    · rw [List.getElem?_append_left (by rw [bvs_len]; exact hj), List.getElem?_append_left (by rw [bvs_len]; exact hj)]
    · rw [List.getElem?_append_right (by rw [bvs_len]; omega), List.getElem?_append_right (by rw [bvs_len]; omega), bvs_len, List.getElem?_drop, List.getElem?_drop, ← h, List.getElem?_take, if_pos (by omega)]
  · rw [if_neg hi, List.getElem?_eq_none]
    rw [List.length_append, List.length_drop, bvs_len, bvs_len]
    omega
set_option maxRecDepth 100000 in
set_option maxHeartbeats 4000000 in
theorem rstore_ok (R : Rk) (n many : Nat) (l : List Nat) (v : Value) (w : World) (h : Rsk w R) (hn : n < R.k) (hm : many ≤ 8) (hv : RB w v l) :
    Calls Try.prog 82 #[.pointer (some ⟨R.r, 0, none⟩), .agg #[.int .i64 n, v], .int .i64 many] w fun r w' => r = .returned (.tuple #[]) ∧ ∃ vl', Rv w R w' (R.st n l many vl') := by
  obtain ⟨gs, cs, rfl, hs1, hs2, hsb⟩ := hv.bs
  have hgr := Gr.at_alloc w (.cells #[.int .i64 n, .slice (some ⟨gs, 0, none⟩) 256 cs] 130)
  have hA := h.gr hgr
  have hnew := heap_alloc_new w (.cells #[.int .i64 n, .slice (some ⟨gs, 0, none⟩) 256 cs] 130)
  have hsb' := bs_gr hsb hgr (Nat.le_refl _)
  obtain ⟨g, c, hvl, hc1, hc2, hbs⟩ := (hA.blk n hn).bs
  have hbn := h.blk n hn
  have hcbw : R.cb < w.heap.size := World.block_lt_of_cell? _ _ (h.cv hn).1
  have HRV := Lib.hid (Rv.gr h hgr)
  have HLE : Hid (w.heap.size ≤ (w.alloc (.cells #[.int .i64 n, .slice (some ⟨gs, 0, none⟩) 256 cs] 130)).heap.size) := hgr.size
  have HW : Hid (∀ W, Rv w R W R → Rv w R W R) := fun _ h => h
  obtain ⟨i5, hi5, hz5, hs5, hy5⟩ := info_parts info5
  have I5 := Lib.hid (And.intro hi5 (And.intro hz5 (And.intro hs5 hy5)))
  have x0 : (w.alloc (.cells #[.int .i64 n, .slice (some ⟨gs, 0, none⟩) 256 cs] 130)).cell? ⟨w.heap.size, 0, none⟩ = some (.int .i64 n) := cell_of_row _ _ _ _ _ _ hnew
  have x1 : (w.alloc (.cells #[.int .i64 n, .slice (some ⟨gs, 0, none⟩) 256 cs] 130)).cell? ⟨w.heap.size, 1, none⟩ = some (.slice (some ⟨gs, 0, none⟩) 256 cs) := cell_of_row _ _ _ _ _ _ hnew
  have hlx : w.heap.size < (w.alloc (.cells #[.int .i64 n, .slice (some ⟨gs, 0, none⟩) 256 cs] 130)).heap.size := lt_of_heap hnew
  have b1 : (0 : Int) ≤ (n : Int) := by omega
  have b2 : (n : Int) < (R.k : Int) := by omega
  clear h hgr hnew hsb hi5 hz5 hs5 hy5 hv hbn HW
  go_enter Try.func82, Try.ntmps82
  go_wp2_with fail
  generalize w.alloc (.cells #[.int .i64 n, .slice (some ⟨gs, 0, none⟩) 256 cs] 130) = W1 at *
  generalize hbx : w.heap.size = bx at *
  have HA := Lib.hid hA
  have HSB := Lib.hid hsb'
  have HBS := Lib.hid hbs
  have c0 := hA.c0
  have cn := (hA.cv hn).1
  rw [hvl] at cn
  have hrl : R.r < W1.heap.size := lt_of_heap hA.row
  have hcl : R.cb < W1.heap.size := World.block_lt_of_cell? _ _ cn
  have c0a : ∀ o, (W1.alloc o).cell? ⟨R.r, 0, none⟩ = some (.slice (some ⟨R.cb, 0, none⟩) R.k R.cc) := fun o => by rw [World.cell?_alloc_lt _ _ _ hrl]; exact c0
  have cna : ∀ o, (W1.alloc o).cell? ⟨R.cb, n * 2, none⟩ = some (.slice (some ⟨g, 0, none⟩) 256 c) := fun o => by rw [World.cell?_alloc_lt _ _ _ hcl]; exact cn
  have x0a : ∀ o, (W1.alloc o).cell? ⟨bx, 0, none⟩ = some (.int .i64 n) := fun o => by rw [World.cell?_alloc_lt _ _ _ hlx]; exact x0
  have HL : Hid ((bvs (R.bl n)).length = 256) := by show _ = _; rw [bvs_len]; exact hbs.1.symm
  have HNEWS : Hid (∀ j u, (bvs (R.bl n))[j]? = some u → ((W1.alloc (.cells #[] 5)).drew).cell? ((⟨g, 0, none⟩ : Addr).add j) = some u) := fun j u hu => bs_cells (bs_gr hbs (Gr.at_alloc W1 (.cells #[] 5)) (Nat.le_refl _)) ⟨g, 0, none⟩ rfl j u hu
  have HOWN : Hid (((W1.alloc (.cells #[] 5)).drew).ownsRow W1.heap.size 5 1 (.slice (some ⟨W1.heap.size, 0, none⟩) 0 0) 0 []) := (empty_own W1).drew
  have HSM : Hid (Small (R.bl n)) := hbs.2.1
  have HVL := Lib.hid hvl
  have HCB : Hid (R.cb < bx) := hcbw
  clear hA hsb' hbs hvl
  go_cut [6] from 7 to 17 (fun b wx => ∃ g2 c2, b = .slice (some ⟨g2, 0, none⟩) 256 c2 ∧ Hid (Cp W1 wx (.slice (some ⟨g2, 0, none⟩) 256 c2) (R.bl n)))
  case first =>
    go_region_law ((refine step_append_lies _ (by rfl) (.tmp 7) (.tmp 16) 24 (by rfl) W1.heap.size 5 i5 _ 1 1 Try.underlying24 I5.out.1 I5.out.2.1 I5.out.2.2.1 I5.out.2.2.2 (by kernel_rfl) (by omega) (.slice (some ⟨W1.heap.size, 0, none⟩) 0 0) 0 [] (by rfl) HOWN.out (⟨g, 0, none⟩ : Addr) 256 c (bvs (R.bl n)) (by rfl) (by rw [HL.out]) HNEWS.out (bvs_one _) (by omega) (by unfold maxLen; omega) (by omega) (by simp) (W1.heap.size + 1) (by simp) ?_; intro g2 c2 w2 hown2 hgrow hat hlt; have HCP : Hid (Cp W1 w2 (.slice (some ⟨g2, 0, none⟩) (0 + 256) c2) (R.bl n)) := cp_of (by rw [← bvs_len]; exact HL.out) HSM.out hown2 ((Below.drew (Gr.at_alloc W1 _)).grown hgrow (by simp) (fun q hq => by cases hq; exact Nat.le_refl _)); clear hown2 hgrow hat hlt))
    all_goals (
      go_wp2_with fail
      go_meet
      exact ⟨_, _, rfl, HCP⟩)
  case rest =>
    obtain ⟨g2, c2, rfl, HCP⟩ := hcut
    obtain ⟨hg1, ⟨_, _, cur, e, hc256, hcc, hh, htk, hl256, hsm⟩, hnew⟩ := HCP
    injection e with e _ e2
    injection e with e
    injection e with e
    subst e
    subst e2
    have hgb := hnew g2 rfl
    obtain ⟨curL, rfl⟩ : ∃ L : List Value, cur = L.toArray := ⟨cur.toList, by simp⟩
    rw [List.toList_toArray] at htk
    have hl : l.length = 256 := HSB.out.1.symm
    have HSRC : Hid (∀ ad, (some ⟨gs, 0, none⟩ : Option Addr) = some ad → ∀ j u, (bvs (l.take (32 * many)))[j]? = some u → wc.cell? (ad.add j) = some u) := fun ad had j u hu => by
      obtain ⟨hj, rfl⟩ := bvs_at hu
      rw [List.length_take] at hj
      have hb2 := bs_gr HSB.out hg1 HLE.out
      have := bs_cells hb2 ad had j (.int .u8 ((l.getD j 0 : Nat) : Int)) (by unfold bvs; rw [List.getElem?_map, List.getElem?_eq_getElem (by omega), List.getD_eq_getElem?_getD, List.getElem?_eq_getElem (by omega)]; rfl)
      rw [this]
      rw [List.getD_eq_getElem?_getD, List.getD_eq_getElem?_getD, List.getElem?_take, if_pos (by omega)]
    have hcurl : 256 ≤ curL.length := by
      have := congrArg List.length htk
      rw [List.length_take, bvs_len, hl256] at this
      omega
    have HHH := Lib.hid hh
    have HSL : Hid (Small l) := HSB.out.2.1
    have HBX : Hid (w.heap.size = bx) := hbx
    have HG1 := Lib.hid hg1
    have HGB := Lib.hid hgb
    have HTK := Lib.hid htk
    have HCL := Lib.hid hcurl
    have HLL := Lib.hid hl
    have HL2 := Lib.hid hl256
    have x1c : wc.cell? ⟨bx, 1, none⟩ = some (.slice (some ⟨gs, 0, none⟩) 256 cs) := cell_gr hg1 x1
    obtain ⟨t, ht⟩ : ∃ t, 32 * many = t := ⟨_, rfl⟩
    rw [ht] at HSRC
    have hm1 : 32 * (many : Int) = (t : Int) := by omega
    have b3 : (0 : Int) ≤ (t : Int) := by omega
    have b4 : (t : Int) ≤ (cs : Int) := by omega
    have b5 : t ≤ 256 := by omega
    have HTT := Lib.hid ht
    have HMM := Lib.hid hm
    clear ht hm
    clear hh hg1 hgb htk hcurl hl hl256 hsm hnew HNEWS HOWN c0a cna x0a
    go_wp2_with (refine wpList_copy_splice (o := ⟨some 24, _, _, _, _, _⟩) rfl (.tmp 18) (.tmp 23) 24 24 rfl 5 Try.underlying24 size5 (some ⟨g2, 0, none⟩) (some ⟨gs, 0, none⟩) 256 c2 t cs rfl rfl g2 0 curL 5 HHH.out (bvs (l.take t)) ?cn ?cp ?cf (bvs_one _) W1.heap.size W1 HG1.out HGB.out ?_)
    case cn => rw [bvs_len, List.length_take, HLL.out]; exact Nat.min_eq_left b5
    case cp =>
      intro _ j u hu
      have := HSRC.out _ rfl j u hu
      rw [Addr.add_lit, Nat.zero_add] at this
      exact this
    case cf => rw [bvs_len, List.length_take, HLL.out]; have := HCL.out; omega
    intro w5 hw5 hg5
    have hlt : (l.take t).length ≤ 256 := by rw [List.length_take]; omega
    have HRB : Hid (RB w5 (.slice (some ⟨g2, 0, none⟩) 256 c2) (over (l.take (32 * many)) (R.bl n))) := by
      rw [HTT.out]
      refine ⟨g2, c2, _, rfl, hc256, hcc, hw5.out, ?_, ?_, small_over (fun y hy => HSL.out y (List.mem_of_mem_take hy)) HSM.out⟩
      · rw [List.toList_toArray]
        exact splice_over HTK.out HL2.out hlt rfl
      · rw [over_len (by rw [HL2.out]; exact hlt)]; exact HL2.out
    have HG5 : Hid (Gr W1 w5) := hg5
    have hrv : Rv w R w5 R := HRV.out.trans (Rv.gr HRV.out.sk HG5.out)
    have hsk := hrv.sk
    have c05 := hsk.c0
    obtain ⟨cn5, ch5, fr5⟩ := hsk.cv hn
    rw [show R.vl n = .slice (some ⟨g, 0, none⟩) 256 c from HVL.out] at cn5
    have x05 := cell_gr HG5.out x0
    have HRVV := Lib.hid hrv
    have hblk := Rv.block hrv hn HRB.out (fun b hb => by
      have e : g2 = b := by simpa [Value.ownBlock] using hb
      have := HGB.out
      have := HLE.out
      have := HBX.out
      omega)
    have HBLK := Lib.hid (hblk.trans (Rv.gr hblk.sk (Gr.drew _)))
    clear hw5 hg5 hrv hsk hblk HHH HSRC x0 x1 x1c c0 cn
    go_wp2_with fail
    go_region
    all_goals (
      have hcb : R.cb < bx := HCB.out
      have x06 : ((w5.setCell ⟨R.cb, n * 2, none⟩ (.slice (some ⟨g2, 0, none⟩) 256 c2)).drew).cell? ⟨bx, 0, none⟩ = some (.int .i64 n) := by
        show (w5.setCell _ _).cell? _ = _
        rw [World.cell?_setCell_other _ _ _ _ (by intro e; injection e with e; omega)]
        exact x05
      generalize (w5.setCell ⟨R.cb, n * 2, none⟩ (.slice (some ⟨g2, 0, none⟩) 256 c2)).drew = W6 at *
      have hsk6 := HBLK.out.sk
      have c06 : W6.cell? ⟨R.r, 0, none⟩ = some (.slice (some ⟨R.cb, 0, none⟩) R.k R.cc) := hsk6.c0
      have ch6 : W6.cell? ⟨R.cb, n * 2 + 1, none⟩ = some (.bool (R.hu n)) := (hsk6.cv hn).2.1
      have fr6 : ∀ j, W6.frozen? ⟨R.cb, j, none⟩ = false := (hsk6.cv hn).2.2
      have hhu := Rv.hurt hsk6 (n := n) hn false
      have HHU := Lib.hid (HBLK.out.trans (hhu.trans (Rv.gr hhu.sk (Gr.drew _))))
      clear hsk6 hhu c05 cn5 ch5 fr5 x05 hcb
      by_cases h8 : many = 8
      · have h8b : ((many : Int) == 8) = true := by simp [h8]
        have H8 := Lib.hid h8
        clear h8
        go_wp2_with fail
        go_region
        all_goals (
          go_wp2_with fail
          go_end0
          refine ⟨rfl, upd R.vl n (.slice (some ⟨g2, 0, none⟩) 256 c2), ?_⟩
          unfold Rk.st
          rw [if_pos H8.out]
          exact HHU.out)
      · have h8b : ((many : Int) == 8) = false := by simp; omega
        have H8 := Lib.hid h8
        clear h8
        go_wp2_with fail
        go_end0
        refine ⟨rfl, upd R.vl n (.slice (some ⟨g2, 0, none⟩) 256 c2), ?_⟩
        unfold Rk.st
        rw [if_neg H8.out]
        exact HBLK.out)
end Go.Proofs.Ytkdphgcbecldbaa
