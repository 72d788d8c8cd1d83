/- What came in, opened: a slice of deeds. -/
import Derived.Test.YtkdphgcbecldbaaOpen22
import Derived.Deep.MidRow
namespace Go.Proofs.Ytkdphgcbecldbaa
open Go.ChangeShapes Go.WideShapes Go.ChangeAt Go.RowKit Go.Deep
structure Deed where
  what : Int
  n : Int
  s : Sl
  b : List Nat
  torn : Int
  part : Int
  mask : Nat
instance : Inhabited Deed := ⟨⟨0, 0, ⟨none, 0, 0⟩, [], 0, 0, 0⟩⟩
def Deed.cs (x : Deed) : List Value := [.int .i64 x.what, .int .i64 x.n, x.s.v, .int .i64 x.torn, .int .i64 x.part, .int .u32 x.mask]
def i64 (n : Int) : Prop := -9223372036854775808 ≤ n ∧ n ≤ 9223372036854775807
structure DeedOk (w : World) (B : Nat) (x : Deed) : Prop where
  bs : Bs w B x.s x.b
  len : x.b.length ≤ 140737488351232
  what : i64 x.what
  n : i64 x.n
  torn : i64 x.torn
  part : i64 x.part
  mask : x.mask < 4294967296
/-- the slice reads as the deeds -/
structure Ds (w : World) (B : Nat) (A : Option Addr) (n : Nat) (xs : List Deed) : Prop where
  len : n = xs.length
  max : n ≤ 140737488351232
  at_ : 0 < n → ∃ b o, A = some ⟨b, o, none⟩ ∧ b < B ∧ ∀ i (h : i < xs.length), w.rangeAt b (o + i * 6) xs[i].cs
  ok : ∀ x, x ∈ xs → DeedOk w B x
theorem Ds.below {w w' : World} {B B' : Nat} {A : Option Addr} {n : Nat} {xs : List Deed} (h : Ds w B A n xs) (hb : Below B' w w') (hB : B ≤ B') : Ds w' B A n xs := by
  refine ⟨h.len, h.max, fun hn => ?_, fun x hx => ?_⟩
  · obtain ⟨b, o, e, hlt, hc⟩ := h.at_ hn
    exact ⟨b, o, e, hlt, fun i hi j v hv => (hb.cell (p := ⟨b, o + i * 6 + j, none⟩) (by simp only; omega)).trans (hc i hi j v hv)⟩
  · have k := h.ok x hx
    exact ⟨k.bs.below hb hB, k.len, k.what, k.n, k.torn, k.part, k.mask⟩
theorem bytes47 : Try.prog.bytesOf 47 = 64 := by kernel_rfl
theorem cells47 : Try.prog.cellsOf 47 = 6 := by kernel_rfl
theorem cells3 : Try.prog.cellsOf 3 = 1 := by kernel_rfl
theorem cells23 : Try.prog.cellsOf 23 = 1 := by kernel_rfl
theorem i64_of {n : Int} (h : (Lit.int .i64 n).wf = true) : i64 n := by
  have := bounds_i64 h
  unfold i64
  omega
set_option maxRecDepth 100000 in
theorem open40 {H : Type} {enc : TypeId × Value → H} {W : World} {ts : List TypeId} {ds : List (DataW H)} (hsz : (DataW.weightsEach Try.prog ts ds).all (· ≤ reachBytes) = true)
    {j : Nat} (ht : ts[j]? = some 40) {d : DataW H} (hd : ds[j]? = some d) {a : Option Addr} {n c : Nat} {p : List MemPlace} (h : DataW.Trod enc Try.prog W 0 (fun _ => true) true 40 (.slice a n c) d p) :
    ∃ xs, Ds W W.heap.size a n xs ∧ n ≤ c ∧ True := by
  obtain ⟨fuel, hf⟩ := h
  rcases open_slice Try.underlying40 hf with ⟨hcs, _⟩ | ⟨x, l, cp, m, n', D, Pl, hcs, _, hl, hm, hmm, hx, hrow⟩
  · simp [Value.cells] at hcs
    obtain ⟨rfl, rfl, rfl⟩ := hcs
    exact ⟨[], ⟨rfl, by omega, fun h => absurd h (by omega), by simp⟩, by omega, trivial⟩
  · simp [Value.cells] at hcs
    obtain ⟨rfl, rfl, rfl⟩ := hcs
    simp only [if_true] at hmm
    subst hmm
    simp only [Prod.mk.injEq] at hx
    have hd' := hd.trans (congrArg some hx.1)
    have hr := sized_slice hsz (j := j) (t := 40) (e := 47) ht hd' Try.underlying40
    rw [bytes47] at hr
    simp only [List.length_map, List.length_range, reachBytes] at hr
    have each : ∀ i, i < n → ∃ y : Deed, (∀ (k : Nat) (v : Value), y.cs[k]? = some v → W.cell? (x.add (i * 6 + k)) = some v) ∧ DeedOk W W.heap.size y := by
      intro i hi
      obtain ⟨cs', h1, h2⟩ := hrow i (by omega)
      rw [cells47] at h1
      obtain ⟨_, hlen, hcell⟩ := World.cells?_some h1
      obtain ⟨ys, k, hk, hxy, _, hyl, hf⟩ := DataW.trod_struct Try.underlying47 h2
      match ys, hyl, cs', hlen with
      | [y0, y1, y2, y3, y4, y5], _, [v0, v1, v2, v3, v4, v5], _ =>
        have g0 := hf 0 _ rfl
        have g1 := hf 1 _ rfl
        have g2 := hf 2 _ rfl
        have g3 := hf 3 _ rfl
        have g4 := hf 4 _ rfl
        have g5 := hf 5 _ rfl
        simp [cells3, cells24, cells23] at g0 g1 g2 g3 g4 g5
        have c0 := hcell 0 (by omega)
        have c1 := hcell 1 (by omega)
        have c2 := hcell 2 (by omega)
        have c3 := hcell 3 (by omega)
        have c4 := hcell 4 (by omega)
        have c5 := hcell 5 (by omega)
        rw [add_add] at c0 c1 c2 c3 c4 c5
        obtain ⟨n0, e0, _, w0⟩ := DataW.trod_int Try.underlying3 g0
        obtain ⟨n1, e1, _, w1⟩ := DataW.trod_int Try.underlying3 g1
        obtain ⟨n3, e3, _, w3⟩ := DataW.trod_int Try.underlying3 g3
        obtain ⟨n4, e4, _, w4⟩ := DataW.trod_int Try.underlying3 g4
        obtain ⟨n5, e5, _, w5⟩ := DataW.trod_int Try.underlying23 g5
        obtain ⟨m5, hm5, rfl⟩ := nat_u32 w5
        simp only [List.cons.injEq, and_true] at e0 e1 e3 e4 e5
        subst e0 e1 e3 e4 e5
        have hD : D i = .agg [y0.1, y1.1, y2.1, y3.1, y4.1, y5.1] := (Prod.mk.inj hxy).1
        obtain ⟨s2, b2, es, hbs, hbl⟩ : ∃ (s2 : Sl) (b2 : List Nat), v2 = s2.v ∧ Bs W W.heap.size s2 b2 ∧ b2.length ≤ 140737488351232 := by
          rcases open_ints Try.underlying24 Try.underlying5 cells5 g2 with ⟨hcs, _⟩ | ⟨x2, l2, cp2, zs, hcs, _, hl2, hm2, hz, hx2, hc2, hw2⟩
          · simp only [List.cons.injEq, and_true] at hcs
            exact ⟨⟨none, 0, 0⟩, [], hcs, bs_nil W _, by simp⟩
          · simp only [List.cons.injEq, and_true] at hcs
            simp only [if_true] at hz
            refine ⟨⟨some x2, l2, cp2⟩, _, hcs, bs_of_ints hl2 hm2 hz hc2 hw2 (Nat.le_refl _), ?_⟩
            have hmem : cp2 * Try.prog.bytesOf 5 ∈ DataW.weightsEach Try.prog ts ds := by
              refine DataW.weights_mem_each ht hd' _ ?_
              simp only [DataW.weights, Try.underlying40, List.mem_cons, List.mem_append]
              refine Or.inr (Or.inl (weights_mem_all (i := i) (d := D i) ?_ _ ?_))
              · rw [List.getElem?_map, List.getElem?_range hi]; rfl
              · rw [hD, hx2]
                simp only [DataW.weights, Try.underlying47, List.map_cons, List.map_nil, DataW.weightsEach, Try.underlying24, List.mem_append, List.mem_cons]
                refine Or.inr (Or.inr (Or.inl (Or.inl ?_)))
                simp only [lits, List.length_map, List.length_take, List.length_drop]
                congr 1
                omega
            have := List.all_eq_true.1 hsz _ hmem
            rw [bytes5] at this
            simp [reachBytes] at this
            rw [List.length_map, List.length_take]
            omega
        subst es
        refine ⟨⟨n0, n1, s2, b2, n3, n4, m5⟩, fun k v hv => ?_, ⟨hbs, hbl, i64_of w0, i64_of w1, i64_of w3, i64_of w4, hm5⟩⟩
        match k with
        | 0 => exact c0.trans hv
        | 1 => exact c1.trans hv
        | 2 => exact c2.trans hv
        | 3 => exact c3.trans hv
        | 4 => exact c4.trans hv
        | 5 => exact c5.trans hv
        | k + 6 => cases hv
    obtain ⟨Y, hY⟩ := choose_lt each
    refine ⟨(List.range n).map Y, ⟨by simp, by omega, fun h0 => ?_, fun y hy => ?_⟩, by omega, trivial⟩
    · have hx0 := (hY 0 h0).1 0 _ rfl
      rw [Nat.zero_mul, Nat.zero_add, Addr.add, if_pos rfl] at hx0
      obtain ⟨e, hlt⟩ := plain_of_cell hx0
      refine ⟨x.block, x.off, congrArg some e, hlt, fun i hi k v hv => ?_⟩
      rw [List.length_map, List.length_range] at hi
      have e' : ((List.range n).map Y)[i] = Y i := by simp
      rw [e'] at hv
      have := (hY i hi).1 k v hv
      rw [e, Addr.add_lit] at this
      rw [Nat.add_assoc]
      exact this
    · obtain ⟨i, hi, rfl⟩ := List.mem_map.1 hy
      exact (hY i (List.mem_range.1 hi)).2
end Go.Proofs.Ytkdphgcbecldbaa
