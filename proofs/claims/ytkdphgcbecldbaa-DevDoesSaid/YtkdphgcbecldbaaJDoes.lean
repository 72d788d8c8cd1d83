/- DevDoes: for every input the law returns true, and each argument reads behind the call as it read before. No condition. -/
import Derived.Test.YtkdphgcbecldbaaJr
/- What came in, opened: a slice of deeds; a slice of no memory is empty. -/
namespace Go.Proofs.Ytkdphgcbecldbaa
open Go.ChangeShapes Go.WideShapes Go.ChangeAt Go.RowKit Go.Deep
set_option maxRecDepth 100000 in
theorem open40n {H : Type} {enc : TypeId × Value → H} {W : World} {ts : List TypeId} {ds : List (DataW H)} (hsz : (DataW.weightsEach Try.prog ts ds).all (· ≤ reachBytes) = true)
    {j : Nat} (ht : ts[j]? = some 40) {d : DataW H} (hd : ds[j]? = some d) {a : Option Addr} {n c : Nat} {p : List MemPlace} (h : DataW.Trod enc Try.prog W 0 (fun _ => true) true 40 (.slice a n c) d p) :
    ∃ xs, Ds W W.heap.size a n xs ∧ n ≤ c ∧ ∀ x, x ∈ xs → x.s.a = none → x.s.c = 0 := by
  obtain ⟨fuel, hf⟩ := h
  rcases open_slice Try.underlying40 hf with ⟨hcs, _⟩ | ⟨x, l, cp, m, n', D, Pl, hcs, _, hl, hm, hmm, hx, hrow⟩
  · simp [Value.cells] at hcs
    obtain ⟨rfl, rfl, rfl⟩ := hcs
    exact ⟨[], ⟨rfl, by omega, fun h => absurd h (by omega), by simp⟩, by omega, fun x hx => by cases hx⟩
  · simp [Value.cells] at hcs
    obtain ⟨rfl, rfl, rfl⟩ := hcs
    simp only [if_true] at hmm
    subst hmm
    simp only [Prod.mk.injEq] at hx
    have hd' := hd.trans (congrArg some hx.1)
    have hr := sized_slice hsz (j := j) (t := 40) (e := 47) ht hd' Try.underlying40
    rw [bytes47] at hr
    simp only [List.length_map, List.length_range, reachBytes] at hr
    have each : ∀ i, i < n → ∃ y : Deed, (∀ (k : Nat) (v : Value), y.cs[k]? = some v → W.cell? (x.add (i * 6 + k)) = some v) ∧ DeedOk W W.heap.size y ∧ (y.s.a = none → y.s.c = 0) := by
      intro i hi
      obtain ⟨cs', h1, h2⟩ := hrow i (by omega)
      rw [cells47] at h1
      obtain ⟨_, hlen, hcell⟩ := World.cells?_some h1
      obtain ⟨ys, k, hk, hxy, _, hyl, hf⟩ := DataW.trod_struct Try.underlying47 h2
      match ys, hyl, cs', hlen with
      | [y0, y1, y2, y3, y4, y5], _, [v0, v1, v2, v3, v4, v5], _ =>
        have g0 := hf 0 _ rfl
        have g1 := hf 1 _ rfl
        have g2 := hf 2 _ rfl
        have g3 := hf 3 _ rfl
        have g4 := hf 4 _ rfl
        have g5 := hf 5 _ rfl
        simp [cells3, cells24, cells23] at g0 g1 g2 g3 g4 g5
        have c0 := hcell 0 (by omega)
        have c1 := hcell 1 (by omega)
        have c2 := hcell 2 (by omega)
        have c3 := hcell 3 (by omega)
        have c4 := hcell 4 (by omega)
        have c5 := hcell 5 (by omega)
        rw [add_add] at c0 c1 c2 c3 c4 c5
        obtain ⟨n0, e0, _, w0⟩ := DataW.trod_int Try.underlying3 g0
        obtain ⟨n1, e1, _, w1⟩ := DataW.trod_int Try.underlying3 g1
        obtain ⟨n3, e3, _, w3⟩ := DataW.trod_int Try.underlying3 g3
        obtain ⟨n4, e4, _, w4⟩ := DataW.trod_int Try.underlying3 g4
        obtain ⟨n5, e5, _, w5⟩ := DataW.trod_int Try.underlying23 g5
        obtain ⟨m5, hm5, rfl⟩ := nat_u32 w5
        simp only [List.cons.injEq, and_true] at e0 e1 e3 e4 e5
        subst e0 e1 e3 e4 e5
        have hD : D i = .agg [y0.1, y1.1, y2.1, y3.1, y4.1, y5.1] := (Prod.mk.inj hxy).1
        obtain ⟨s2, b2, es, hbs, hbl, hnl⟩ : ∃ (s2 : Sl) (b2 : List Nat), v2 = s2.v ∧ Bs W W.heap.size s2 b2 ∧ b2.length ≤ 140737488351232 ∧ (s2.a = none → s2.c = 0) := by
          rcases open_ints Try.underlying24 Try.underlying5 cells5 g2 with ⟨hcs, _⟩ | ⟨x2, l2, cp2, zs, hcs, _, hl2, hm2, hz, hx2, hc2, hw2⟩
          · simp only [List.cons.injEq, and_true] at hcs
            exact ⟨⟨none, 0, 0⟩, [], hcs, bs_nil W _, by simp, fun _ => rfl⟩
          · simp only [List.cons.injEq, and_true] at hcs
            simp only [if_true] at hz
            refine ⟨⟨some x2, l2, cp2⟩, _, hcs, bs_of_ints hl2 hm2 hz hc2 hw2 (Nat.le_refl _), ?_, fun h => by cases h⟩
            have hmem : cp2 * Try.prog.bytesOf 5 ∈ DataW.weightsEach Try.prog ts ds := by
              refine DataW.weights_mem_each ht hd' _ ?_
              simp only [DataW.weights, Try.underlying40, List.mem_cons, List.mem_append]
              refine Or.inr (Or.inl (weights_mem_all (i := i) (d := D i) ?_ _ ?_))
              · rw [List.getElem?_map, List.getElem?_range hi]; rfl
              · rw [hD, hx2]
                simp only [DataW.weights, Try.underlying47, List.map_cons, List.map_nil, DataW.weightsEach, Try.underlying24, List.mem_append, List.mem_cons]
                refine Or.inr (Or.inr (Or.inl (Or.inl ?_)))
                simp only [lits, List.length_map, List.length_take, List.length_drop]
                congr 1
                omega
            have := List.all_eq_true.1 hsz _ hmem
            rw [bytes5] at this
            simp [reachBytes] at this
            rw [List.length_map, List.length_take]
            omega
        subst es
        refine ⟨⟨n0, n1, s2, b2, n3, n4, m5⟩, fun k v hv => ?_, ⟨hbs, hbl, i64_of w0, i64_of w1, i64_of w3, i64_of w4, hm5⟩, hnl⟩
        match k with
        | 0 => exact c0.trans hv
        | 1 => exact c1.trans hv
        | 2 => exact c2.trans hv
        | 3 => exact c3.trans hv
        | 4 => exact c4.trans hv
        | 5 => exact c5.trans hv
        | k + 6 => cases hv
    obtain ⟨Y, hY⟩ := choose_lt each
    refine ⟨(List.range n).map Y, ⟨by simp, by omega, fun h0 => ?_, fun y hy => ?_⟩, by omega, fun y hy => ?_⟩
    · have hx0 := (hY 0 h0).1 0 _ rfl
      rw [Nat.zero_mul, Nat.zero_add, Addr.add, if_pos rfl] at hx0
      obtain ⟨e, hlt⟩ := plain_of_cell hx0
      refine ⟨x.block, x.off, congrArg some e, hlt, fun i hi k v hv => ?_⟩
      rw [List.length_map, List.length_range] at hi
      have e' : ((List.range n).map Y)[i] = Y i := by simp
      rw [e'] at hv
      have := (hY i hi).1 k v hv
      rw [e, Addr.add_lit] at this
      rw [Nat.add_assoc]
      exact this
    · obtain ⟨i, hi, rfl⟩ := List.mem_map.1 hy
      exact (hY i (List.mem_range.1 hi)).2.1
    · obtain ⟨i, hi, rfl⟩ := List.mem_map.1 hy
      exact (hY i (List.mem_range.1 hi)).2.2
end Go.Proofs.Ytkdphgcbecldbaa
namespace Go.Proofs.Ytkdphgcbecldbaa
namespace devDoes
open Go.ChangeShapes Go.WideShapes Go.ChangeAt Go.RowKit

set_option maxRecDepth 100000 in
theorem lifted (os : Os) (started : os.Started) (H : Type) (enc : TypeId × Value → H) :
    ReturnsInHanded {} Try.checked os 9 .any (Rows.devDoesSpec.pre6 enc Try.prog Try.f9 Rows.devDoesRow.domain false) (Rows.devDoesSpec.post enc Try.prog Try.f9 false true false false) := by
  refine returnsInHanded_of_change_sized (C := Try.checked) own started (by kernel_rfl) Try.func9
    (ChangeSpec.witness6 (enc := enc) (C := Try.checked) false ⟨#[], #[.int .i64 0, .slice none 0 0], []⟩ 8 (by kernel_rfl) (by kernel_rfl) (by kernel_rfl) (by kernel_rfl)) ?_
  intro W base args ds gs before hval0 hW hcnd hsz _
  have hval : ∀ (j : Nat) t v, Try.f9.params[j]? = some t → args[j]? = some v → Value.okWide Try.prog W .any base t v := hval0
  have hW' := hW
  obtain ⟨p, q, hA0, hV, rfl, hfz, hnd⟩ := hW
  have hA : DataW.TrodAll enc Try.prog W 0 (fun _ => true) true Try.f9.params.toList args.toList ds p := hA0
  rw [Try.params9] at hA hval hsz
  obtain ⟨v0, vs0, d0, ds0, p0, q0, hargs, rfl, rfl, h0, r0⟩ := trodAll_cons hA
  obtain ⟨v1, vs1, d1, ds1, p1, q1, rfl, rfl, rfl, h1, r1⟩ := trodAll_cons r0
  obtain ⟨rfl, rfl, rfl⟩ := trodAll_nil r1
  obtain rfl : args = #[v0, v1] := by cases args; simp_all
  obtain ⟨rfl, rfl⟩ := trodVars_none hV
  obtain ⟨x0, rfl, rfl, rfl, w0⟩ := open_int Try.underlying3 (hval 0 3 v0 rfl rfl) h0
  have bd0 := bounds_i64 w0
  obtain ⟨a1, len1, cap1, rfl⟩ := okWide_slice Try.underlying40 (hval 1 40 v1 rfl rfl)
  have lt1 : ∀ x ∈ p1, x.block < W.heap.size := by obtain ⟨m, hm⟩ := h1; exact DataW.trod_lt m _ _ _ hm
  have k1 := h1
  obtain ⟨l1, b1, c1, z1⟩ := open40n (j := 1) hsz rfl rfl h1
  clear hA0 hval0
  refine (devdoes_any x0 a1 len1 cap1 l1 W b1 bd0 z1).mono fun e W' ⟨he, bel⟩ => ?_
  have bel : Below W.heap.size W W' := bel
  subst he
  exact ⟨_, rfl, _, _, _, [], _, [], hW', trodAll_mk1 (shut_bool Try.underlying4 _), (trodAll_cons_mk (shut_int Try.underlying3 w0) (trodAll_cons_mk (Below.trod laidOut (by kernel_rfl) (of_decide_eq_true (by kernel_rfl)) k1 bel lt1) trodAll_mk0)), rfl, bel.frame _, fun h => by cases h⟩

theorem over : Rows.devDoesRow.holds Try.pinned (OpenSpec.ofChange Rows.devDoesSpec) :=
  OpenClaim.holds_of_wide 9 Try.f9 rfl rfl rfl rfl rfl rfl rfl ⟨rfl, rfl, rfl, rfl, rfl⟩ rfl rfl rfl rfl rfl (by kernel_rfl) Try.func9 (by kernel_rfl)
    (of_decide_eq_true (by kernel_rfl)) (by unfold Func.isWrapper; first | (rw [if_pos (by decide +kernel)]; kernel_rfl) | (rw [if_neg (by decide +kernel)]; exact ⟨rfl, rfl⟩))
    (fun os started H enc _ => lifted os started H enc)

/-- the statement -/
theorem proved : Rows.DevDoesSaid := over
#print axioms proved
end devDoes
end Go.Proofs.Ytkdphgcbecldbaa
