/- Texts of the proof, one behind the other: MixB, MixC, MixD, MixR. -/
import Derived.Test.YtkdphgcbecldbaaJa
import Derived.BigQuiet
import Derived.Deep.QuietTactic
/- Walk of mix.Sum: the sum of any parts; it makes memory of its own and leaves all that was. -/
namespace Go.Proofs.Ytkdphgcbecldbaa
open Go.RowKit MixM

theorem made_lit (w : World) :
    Calls Try.prog 46 #[] w fun e w' => ∃ c0 c1 c2 c3 c4 c5 c6 c7 c8 c9 c10 c11 c12 c13 c14 c15 : Int, e = .returned (.agg #[.int .u32 c0, .int .u32 c1, .int .u32 c2, .int .u32 c3, .int .u32 c4, .int .u32 c5, .int .u32 c6, .int .u32 c7, .int .u32 c8, .int .u32 c9, .int .u32 c10, .int .u32 c11, .int .u32 c12, .int .u32 c13, .int .u32 c14, .int .u32 c15]) ∧ Hid (tabC 16 = #[.int .u32 c0, .int .u32 c1, .int .u32 c2, .int .u32 c3, .int .u32 c4, .int .u32 c5, .int .u32 c6, .int .u32 c7, .int .u32 c8, .int .u32 c9, .int .u32 c10, .int .u32 c11, .int .u32 c12, .int .u32 c13, .int .u32 c14, .int .u32 c15]) ∧ Below w.heap.size w w' := by
  obtain ⟨c0, c1, c2, c3, c4, c5, c6, c7, c8, c9, c10, c11, c12, c13, c14, c15, hC⟩ := tabC_open
  refine (made_any w).mono fun e w' ⟨he, hw⟩ => ?_
  exact ⟨c0, c1, c2, c3, c4, c5, c6, c7, c8, c9, c10, c11, c12, c13, c14, c15, by rw [he, hC], hC, hw⟩

theorem tabAt_new (w : World) {cs : Array Value} (h : tabC 16 = cs) : TabAt (w.alloc (.cells cs 74)) w.heap.size := by
  intro i hi
  rw [← h]
  have := tabC_at 16 i hi
  rw [if_pos hi] at this
  rw [← this]
  exact cell_of_row _ _ _ _ _ _ (heap_alloc_new w _)
def lenV : Value → Nat | .slice _ n _ => n | _ => 0
theorem small_flat {w : World} {B : Nat} {s : Sl} {ss : List Sl} {ls : List (List Nat)} (h : Rs w B s ss ls) (k : Nat) : Small (ls.take k).flatten := by
  intro x hx
  obtain ⟨l, hl, hxl⟩ := List.mem_flatten.1 hx
  obtain ⟨i, hi, rfl⟩ := List.getElem_of_mem (List.mem_of_mem_take hl)
  have := (h.2.2.2 i (by rw [h.1, h.2.1]; exact hi)).2.1
  rw [List.getD_eq_getElem?_getD, List.getElem?_eq_getElem hi] at this
  exact this x hxl
theorem take_lt {n x : Nat} (hn : n < 4294967296) (hx : x < 256) : MixM.take n x < 4294967296 := shN_lt _ (xor_lt hn (by omega))
theorem below_drewN {B : Nat} {a w : World} (h : Below B a w) (n : Nat) : Below B a (w.drewN n) := ⟨h.os, h.tape, h.output, h.size, h.block⟩
theorem orJoin (i x y : Nat) (hx : x % 2 ^ i = 0) (hy : y < 2 ^ i) : y ||| x = y ^^^ x := by
  apply Nat.eq_of_testBit_eq
  intro j
  rw [Nat.testBit_or, Nat.testBit_xor]
  by_cases h : j < i
  · have : x.testBit j = false := by
      have h1 : x = x / 2 ^ i * 2 ^ i := by have := Nat.div_add_mod x (2 ^ i); rw [hx, Nat.add_zero, Nat.mul_comm] at this; exact this.symm
      rw [h1, Nat.testBit_mul_two_pow]
      simp; omega
    simp [this]
  · have : y.testBit j = false := Nat.testBit_lt_two_pow (Nat.lt_of_lt_of_le hy (Nat.pow_le_pow_right (by decide) (by omega)))
    simp [this]
theorem word4_lt {q x y z t : Nat} (hq : q < 4294967296) (hx : x < 256) (hy : y < 256) (hz : z < 256) (ht : t < 256) : q ^^^ (x ^^^ y * 256 ^^^ z * 65536 ^^^ t * 16777216) < 4294967296 :=
  xor_lt hq (xor_lt (xor_lt (xor_lt (by omega) (by omega)) (by omega)) (by omega))
theorem word4 {q x y z t : Nat} (hq : q < 4294967296) (hx : x < 256) (hy : y < 256) (hz : z < 256) (ht : t < 256) :
    bits .xor .u32 (q : Int) (bits .or .u32 (bits .or .u32 (bits .or .u32 (x : Int) ((y : Int) * 256)) ((z : Int) * 65536)) ((t : Int) * 16777216)) = ((q ^^^ (x ^^^ y * 256 ^^^ z * 65536 ^^^ t * 16777216) : Nat) : Int) := by
  have e1 : ((y : Int) * 256) = ((y * 256 : Nat) : Int) := by omega
  have e2 : ((z : Int) * 65536) = ((z * 65536 : Nat) : Int) := by omega
  have e3 : ((t : Int) * 16777216) = ((t * 16777216 : Nat) : Int) := by omega
  have l1 : x ^^^ y * 256 < 2 ^ 16 := Nat.xor_lt_two_pow (by omega) (by omega)
  have l2 : x ^^^ y * 256 ^^^ z * 65536 < 2 ^ 24 := Nat.xor_lt_two_pow (by omega) (by omega)
  rw [e1, e2, e3, u32_or_nat _ _ (by omega) (by omega), orJoin 8 (y * 256) x (by omega) (by omega), u32_or_nat _ _ (by omega) (by omega), orJoin 16 (z * 65536) _ (by omega) l1,
    u32_or_nat _ _ (by omega) (by omega), orJoin 24 (t * 16777216) _ (by omega) l2, u32_xor_nat _ _ hq (xor_lt (by omega) (by omega))]
theorem compl {r : Nat} (hr : r < 4294967296) : bits .xor .u32 IntKind.u32.max (r : Int) = ((r ^^^ F : Nat) : Int) := by
  rw [show IntKind.u32.max = ((4294967295 : Nat) : Int) from rfl, u32_xor_nat _ _ (by omega) hr, Nat.xor_comm]; rfl
theorem sum_step {k r0 : Nat} {ls : List (List Nat)} {l p m : List Nat} (h1 : run F (ls.take k).flatten = r0) (h2 : ls.getD k [] = l) (h3 : l = p ++ m) (hk : k < ls.length) :
    run F (ls.take (k + 1)).flatten = run (run r0 p) m := by
  rw [List.take_succ_eq_append_getElem hk, List.flatten_append, run_append, h1, List.flatten_singleton]
  rw [List.getD_eq_getElem?_getD, List.getElem?_eq_getElem hk, Option.getD_some] at h2
  rw [h2, h3, run_append]
set_option maxRecDepth 100000 in
set_option maxHeartbeats 1000000 in
theorem sum_any (A : Option Addr) (n c : Nat) (ss : List Sl) (ls : List (List Nat)) (w : World) (h : Rs w w.heap.size ⟨A, n, c⟩ ss ls) :
    Calls Try.prog 16 #[.slice A n c] w fun e w' => e = .returned (.int .u32 ((sum ls.flatten : Nat) : Int)) ∧ Below w.heap.size w w' := by
  have H := Lib.hid h
  have hnc : n ≤ c := h.2.2.1.1
  have hcm : c ≤ 9223372036854775807 := h.2.2.1.2.1
  clear h
  go_enter Try.func16, Try.ntmps16
  go_wp2_with fail
  refine (made_lit _).mono ?_
  rintro e w1 ⟨c0, c1, c2, c3, c4, c5, c6, c7, c8, c9, c10, c11, c12, c13, c14, c15, rfl, hC, hb1⟩
  go_wp2_with fail
  have htab : TabAt (w1.alloc (.cells #[.int .u32 c0, .int .u32 c1, .int .u32 c2, .int .u32 c3, .int .u32 c4, .int .u32 c5, .int .u32 c6, .int .u32 c7, .int .u32 c8, .int .u32 c9, .int .u32 c10, .int .u32 c11, .int .u32 c12, .int .u32 c13, .int .u32 c14, .int .u32 c15] 74)) w1.heap.size := tabAt_new _ hC.out
  have hb2 : Below w.heap.size w (w1.alloc (.cells #[.int .u32 c0, .int .u32 c1, .int .u32 c2, .int .u32 c3, .int .u32 c4, .int .u32 c5, .int .u32 c6, .int .u32 c7, .int .u32 c8, .int .u32 c9, .int .u32 c10, .int .u32 c11, .int .u32 c12, .int .u32 c13, .int .u32 c14, .int .u32 c15] 74)) := hb1.alloc hb1.size _
  have hlt : w1.heap.size < (w1.alloc (.cells #[.int .u32 c0, .int .u32 c1, .int .u32 c2, .int .u32 c3, .int .u32 c4, .int .u32 c5, .int .u32 c6, .int .u32 c7, .int .u32 c8, .int .u32 c9, .int .u32 c10, .int .u32 c11, .int .u32 c12, .int .u32 c13, .int .u32 c14, .int .u32 c15] 74)).heap.size := by rw [World.size_alloc]; omega
  clear hC
  generalize w1.alloc (.cells #[.int .u32 c0, .int .u32 c1, .int .u32 c2, .int .u32 c3, .int .u32 c4, .int .u32 c5, .int .u32 c6, .int .u32 c7, .int .u32 c8, .int .u32 c9, .int .u32 c10, .int .u32 c11, .int .u32 c12, .int .u32 c13, .int .u32 c14, .int .u32 c15] 74) = W0 at *
  generalize Value.agg #[.int .u32 c0, .int .u32 c1, .int .u32 c2, .int .u32 c3, .int .u32 c4, .int .u32 c5, .int .u32 c6, .int .u32 c7, .int .u32 c8, .int .u32 c9, .int .u32 c10, .int .u32 c11, .int .u32 c12, .int .u32 c13, .int .u32 c14, .int .u32 c15] = V7
  have hbs := hb1.size
  clear hb1
  generalize w1.heap.size = tb at *
  have HT := Lib.hid htab
  have HB := Lib.hid hb2
  clear htab hb2
  go_loopw [4, 10] (fun v i wr => ∃ k : Nat, k ≤ n ∧ i = .int .i64 k ∧ v = .int .u32 (run F (ls.take k).flatten : Nat) ∧ Below W0.heap.size W0 wr) (fun _ i _ => n - (intOf i).toNat)
  case atStart => exact ⟨0, by omega, rfl, rfl, Below.refl _ _⟩
  case round =>
    obtain ⟨k, hk, rfl, rfl, hbel⟩ := hrel
    by_cases hkn : k < n
    · have H1 := H.out.below HB.out (Nat.le_refl _)
      have hRk := H1.2.2.2 k hkn
      obtain ⟨b, o, hA, hbB, hcell⟩ := H1.2.2.1.2.2 (by omega : 0 < n)
      have hck : wr.cell? ⟨b, o + k, none⟩ = some (ss.getD k ⟨none, 0, 0⟩).v := (hbel.cell (Nat.lt_of_lt_of_le hbB (by have := HB.out.size; omega))).trans (hcell k hkn)
      simp only at hA
      subst hA
      generalize hl : ls.getD k [] = l at hRk
      generalize ss.getD k ⟨none, 0, 0⟩ = s at hRk hck
      obtain ⟨A', n', c'⟩ := s
      simp only [Sl.v] at hck
      have HR := Lib.hid hRk
      have HL := Lib.hid hl
      clear H1 hRk hcell hl
      have hr0 : run F (ls.take k).flatten < 4294967296 := run_lt (by decide) (small_flat H.out k)
      generalize hr : run F (ls.take k).flatten = r0 at hr0
      have HRun := Lib.hid hr
      clear hr
      go_wp2
      go_loopw [4, 6] (fun v sl w' => ∃ (p m : List Nat) (A1 : Option Addr) (n1 c1 : Nat), Hid (l = p ++ m) ∧ sl = .slice A1 n1 c1 ∧ v = .int .u32 (run r0 p : Nat) ∧ Bs w' W0.heap.size ⟨A1, n1, c1⟩ m ∧ Below W0.heap.size W0 w') (fun _ sl _ => lenV sl)
      case atStart => exact ⟨[], l, A', n', c', rfl, rfl, rfl, (HR.out.more (by have := HB.out.size; omega)).below hbel (Nat.le_refl _), hbel⟩
      case round =>
        obtain ⟨p, m, A1, n1, c1, HM, rfl, rfl, hbs1, hbel1⟩ := hrel
        have hn1 := hbs1.2.2.1
        have hc1 := hbs1.2.2.2.1
        have hp : run r0 p < 4294967296 := run_lt hr0 fun x hx => HR.out.2.1 x (by rw [HM.out]; simp [hx])
        generalize hq : run r0 p = q at hp
        have HQ := Lib.hid hq
        clear hq
        simp only at hn1 hc1
        obtain rfl : m.length = n1 := hbs1.1.symm
        have HT1 : Hid (TabAt wr tb) := HT.out.below hbel1 hlt
        rcases m with _ | ⟨x, _ | ⟨y, _ | ⟨z, _ | ⟨t, m⟩⟩⟩⟩
        · clear hbs1
          simp only [List.length_nil] at *
          go_wp2_with fail
          refine ⟨⟨k + 1, by omega, by go_num, ?_, hbel1⟩, by simp [intOf]; omega⟩
          rw [sum_step HRun.out HL.out HM.out (by have := H.out.1; have := H.out.2.1; simp only at *; omega), ← HQ.out]
          rfl
        · obtain ⟨b1, o1, hA1, hb1, hx⟩ := hbs1.at_ (by simp)
          simp only at hA1 hx
          subst hA1
          have hx0 := hx 0 (by simp)
          simp only [Nat.add_zero, List.getD_cons_zero] at hx0
          have s0 : x < 256 := hbs1.2.1 x (by simp)
          clear hbs1 hx
          simp only [List.length_cons, List.length_nil, Nat.zero_add] at hn1 ⊢
          go_wp2_with fail
          refine (take_any tb q x _ hp s0 HT1.out).mono ?_
          rintro e w' ⟨rfl, rfl⟩
          go_wp2_with fail
          refine ⟨⟨k + 1, by omega, by go_num, ?_, hbel1⟩, by simp [intOf]; omega⟩
          rw [sum_step HRun.out HL.out HM.out (by have := H.out.1; have := H.out.2.1; simp only at *; omega), ← HQ.out]
          rfl
        · obtain ⟨b1, o1, hA1, hb1, hx⟩ := hbs1.at_ (by simp)
          simp only at hA1 hx
          subst hA1
          have hx0 := hx 0 (by simp)
          have hx1 := hx 1 (by simp)
          simp only [Nat.add_zero, List.getD_cons_zero, List.getD_cons_succ] at hx0 hx1
          have s0 : x < 256 := hbs1.2.1 x (by simp)
          have s1 : y < 256 := hbs1.2.1 y (by simp)
          clear hbs1 hx
          simp only [List.length_cons, List.length_nil, Nat.zero_add, Nat.reduceAdd] at hn1 ⊢
          go_wp2_with fail
          refine (take_any tb q x _ hp s0 HT1.out).mono ?_
          rintro e w' ⟨rfl, rfl⟩
          go_wp2_with fail
          refine (take_any tb (MixM.take q x) y _ (take_lt hp s0) s1 HT1.out).mono ?_
          rintro e w' ⟨rfl, rfl⟩
          go_wp2_with fail
          refine ⟨⟨k + 1, by omega, by go_num, ?_, hbel1⟩, by simp [intOf]; omega⟩
          rw [sum_step HRun.out HL.out HM.out (by have := H.out.1; have := H.out.2.1; simp only at *; omega), ← HQ.out]
          rfl
        · obtain ⟨b1, o1, hA1, hb1, hx⟩ := hbs1.at_ (by simp)
          simp only at hA1 hx
          subst hA1
          have hx0 := hx 0 (by simp)
          have hx1 := hx 1 (by simp)
          have hx2 := hx 2 (by simp)
          simp only [Nat.add_zero, List.getD_cons_zero, List.getD_cons_succ] at hx0 hx1 hx2
          have s0 : x < 256 := hbs1.2.1 x (by simp)
          have s1 : y < 256 := hbs1.2.1 y (by simp)
          have s2 : z < 256 := hbs1.2.1 z (by simp)
          clear hbs1 hx
          simp only [List.length_cons, List.length_nil, Nat.zero_add, Nat.reduceAdd] at hn1 ⊢
          go_wp2_with fail
          refine (take_any tb q x _ hp s0 HT1.out).mono ?_
          rintro e w' ⟨rfl, rfl⟩
          go_wp2_with fail
          refine (take_any tb (MixM.take q x) y _ (take_lt hp s0) s1 HT1.out).mono ?_
          rintro e w' ⟨rfl, rfl⟩
          go_wp2_with fail
          refine (take_any tb (MixM.take (MixM.take q x) y) z _ (take_lt (take_lt hp s0) s1) s2 HT1.out).mono ?_
          rintro e w' ⟨rfl, rfl⟩
          go_wp2_with fail
          refine ⟨⟨k + 1, by omega, by go_num, ?_, hbel1⟩, by simp [intOf]; omega⟩
          rw [sum_step HRun.out HL.out HM.out (by have := H.out.1; have := H.out.2.1; simp only at *; omega), ← HQ.out]
          rfl
        · obtain ⟨b1, o1, hA1, hb1, hx⟩ := hbs1.at_ (by simp)
          simp only at hA1 hx
          subst hA1
          have hx0 := hx 0 (by simp)
          have hx1 := hx 1 (by simp)
          have hx2 := hx 2 (by simp)
          have hx3 := hx 3 (by simp)
          simp only [Nat.add_zero, List.getD_cons_zero, List.getD_cons_succ] at hx0 hx1 hx2 hx3
          have s0 : x < 256 := hbs1.2.1 x (by simp)
          have s1 : y < 256 := hbs1.2.1 y (by simp)
          have s2 : z < 256 := hbs1.2.1 z (by simp)
          have s3 : t < 256 := hbs1.2.1 t (by simp)
          have HB1 := Lib.hid hbs1
          clear hbs1 hx
          have hge : 4 ≤ (x :: y :: z :: t :: m).length := by simp
          generalize hlen : (x :: y :: z :: t :: m).length = n1 at *
          have HLen := Lib.hid hlen
          clear hlen
          have hd3 : decide (3 < (n1 : Int)) = true := by simp; omega
          go_wp2_with fail
          have eM := word4 hp s0 s1 s2 s3
          have hM := word4_lt hp s0 s1 s2 s3
          have EM := Lib.hid eM
          clear eM
          go_quiet (fail)
          rw [EM.out]
          clear EM
          generalize hmm : q ^^^ (x ^^^ y * 256 ^^^ z * 65536 ^^^ t * 16777216) = mm at hM
          have HMM := Lib.hid hmm
          clear hmm hx0 hx1 hx2 hx3
          have HB2 : Hid (Below W0.heap.size W0 (wr.drewN nq)) := below_drewN hbel1 nq
          have HT2 : Hid (TabAt (wr.drewN nq) tb) := HT1.out
          have HB3 : Hid (Bs (wr.drewN nq) W0.heap.size ⟨some ⟨b1, o1, none⟩, n1, c1⟩ (x :: y :: z :: t :: m)) := HB1.out
          clear HT1 HB1 hbel1
          generalize wr.drewN nq = wq at *
          go_wp2_with fail
          go_loop [4, 43] (fun v i => ∃ r : Nat, r ≤ 8 ∧ i = .int .i64 r ∧ v = .int .u32 (shN (4 * r) mm : Nat)) (fun _ i => 8 - (intOf i).toNat)
          case atStart => exact ⟨0, by omega, rfl, rfl⟩
          case round =>
            obtain ⟨r, hr, rfl, rfl⟩ := hrel
            have hsm : shN (4 * r) mm < 4294967296 := shN_lt _ hM
            by_cases hr8 : r < 8
            · go_wp2_with fail
              refine (half_any tb (shN (4 * r) mm) _ hsm HT2.out).mono ?_
              rintro e w' ⟨rfl, rfl⟩
              go_wp2_with fail
              go_round
              case rel => exact ⟨r + 1, by omega, by go_num, by rw [← shN_add]; rfl⟩
              case measure => simp [intOf]; omega
            · obtain rfl : r = 8 := by omega
              go_wp2_with fail
              refine ⟨⟨p ++ [x, y, z, t], m, _, _, _, ?_, rfl, ?_, HB3.out.cut 4 (by simp only; omega), HB2.out⟩, ?_⟩
              · show l = _
                rw [HM.out]; simp
              · rw [← HMM.out, run_append, HQ.out]
                show Value.int IntKind.u32 ((shN 32 _ : Nat) : Int) = _
                rw [take4]; rfl
              · simp only [lenV]; omega
    · obtain rfl : k = n := by omega
      go_wp2
      go_ret
      refine ⟨?_, HB.out.trans (hbel.mono HB.out.size)⟩
      have hl := H.out.1
      simp only at hl
      have hF : run F ls.flatten < 4294967296 := run_lt (by decide) (by have := small_flat H.out ls.length; rwa [List.take_of_length_le (Nat.le_refl _)] at this)
      rw [List.take_of_length_le (by rw [← H.out.2.1]; omega)]
      refine congrArg Ending.returned ?_
      show Value.int .u32 (bits .xor .u32 IntKind.u32.max ((run F ls.flatten : Nat) : Int)) = _
      rw [compl hF]; rfl
end Go.Proofs.Ytkdphgcbecldbaa
/- Walks of mix.times and mix.Join: products of polynomials, sums joined; any numbers of their kinds. -/
namespace Go.Proofs.Ytkdphgcbecldbaa
open Go.RowKit MixM

theorem and_bit1 {a k : Nat} (ha : a < 4294967296) (hk : k < 32) (h : a.testBit k = true) : bits .and .u32 (a : Int) ((2 ^ k : Nat) : Int) = ((2 ^ k : Nat) : Int) := by
  have hl : 2 ^ k < 4294967296 := Nat.lt_of_lt_of_le (Nat.pow_lt_pow_right (by decide) hk) (by decide)
  rw [u32_and_nat _ _ ha hl]
  congr 1
  rw [nat_bit]
  rw [Nat.testBit_eq_decide_div_mod_eq, decide_eq_true_eq] at h
  rw [h, Nat.one_mul]
theorem and_bit0 {a k : Nat} (ha : a < 4294967296) (hk : k < 32) (h : a.testBit k = false) : bits .and .u32 (a : Int) ((2 ^ k : Nat) : Int) = 0 := by
  have hl : 2 ^ k < 4294967296 := Nat.lt_of_lt_of_le (Nat.pow_lt_pow_right (by decide) hk) (by decide)
  rw [u32_and_nat _ _ ha hl]
  rw [nat_bit]
  rw [Nat.testBit_eq_decide_div_mod_eq, decide_eq_false_iff_not] at h
  rw [show a / 2 ^ k % 2 = 0 by omega, Nat.zero_mul]
  rfl
theorem tm_lt (k : Nat) {a b : Nat} (hb : b < 4294967296) : tm k a b < 4294967296 := by
  induction k generalizing b with
  | zero => rw [tm]; decide
  | succ k ih =>
    rw [tm]
    refine xor_lt ?_ (ih (sh_lt hb))
    unfold bitOf; split
    · exact hb
    · decide

def halfPow : Nat → Nat
  | 0 => 0
  | k + 1 => 2 ^ k
set_option maxHeartbeats 400000 in
theorem times_any (a b : Nat) (w : World) (ha : a < 4294967296) (hb : b < 4294967296) :
    Calls Try.prog 50 #[.int .u32 a, .int .u32 b] w fun e w' => e = .returned (.int .u32 ((tm 32 a b : Nat) : Int)) ∧ w = w' := by
  go_enter Try.func50, Try.ntmps50
  go_wp2
  go_loop [1, 4, 5] (fun vb vn vt => ∃ (k x n B : Nat), k ≤ 32 ∧ Hid (B = halfPow k) ∧ B < 4294967296 ∧ x < 4294967296 ∧ n < 4294967296 ∧ vb = .int .u32 x ∧ vn = .int .u32 n ∧ vt = .int .u32 B ∧ Hid (n ^^^ tm k a x = tm 32 a b)) (fun _ _ t => (intOf t).toNat)
  case atStart => exact ⟨32, b, 0, 2147483648, by omega, rfl, by omega, hb, by omega, rfl, rfl, rfl, Nat.zero_xor _⟩
  case round =>
    obtain ⟨k, x, n, B, hk, HB, hBl, hx, hn, rfl, rfl, rfl, HR⟩ := hrel
    rcases k with _ | k
    · obtain rfl : B = 0 := HB.out
      go_wp2
      go_ret
      refine ⟨?_, rfl⟩
      rw [← HR.out, tm, Nat.xor_zero]; rfl
    · have hBk : B = 2 ^ k := HB.out
      have hpos : 0 < B := by rw [hBk]; exact Nat.two_pow_pos k
      have hsx := sh_walk x hx
      have hB2 : B / 2 = halfPow k := by
        rw [hBk]
        cases k with
        | zero => rfl
        | succ k => show 2 ^ (k + 1) / 2 = 2 ^ k; rw [Nat.pow_succ]; omega
      have hRel : n ^^^ (bitOf a k x ^^^ tm k a (sh x)) = tm 32 a b := HR.out
      have HB2 := Lib.hid hB2
      have HRel := Lib.hid hRel
      have ha1 := and1 x hx
      clear hB2 hRel HR HB
      have hne : ((B : Int) != 0) = true := by simp; omega
      by_cases ht : a.testBit k = true
      · have e1 := and_bit1 ha (show k < 32 by omega) ht
        rw [← hBk] at e1
        have hxor : bits .xor .u32 (n : Int) (x : Int) = ((n ^^^ x : Nat) : Int) := u32_xor_nat _ _ hn hx
        have HT := Lib.hid ht
        clear hBk ht
        go_wp2
        go_round
        case rel => 
          have e3 : n ^^^ x ^^^ tm k a (sh x) = tm 32 a b := by rw [← HRel.out, bitOf, if_pos HT.out, Nat.xor_assoc]
          exact ⟨k, sh x, n ^^^ x, B / 2, Nat.le_of_succ_le hk, HB2, by omega, sh_lt hx, xor_lt hn hx, rfl, rfl, by go_num, e3⟩
        case measure => simp [intOf]; omega
      · have e1 := and_bit0 ha (show k < 32 by omega) (by simpa using ht)
        rw [← hBk] at e1
        have HT := Lib.hid ht
        clear hBk ht
        go_wp2
        go_round
        case rel => 
          have e3 : n ^^^ tm k a (sh x) = tm 32 a b := by rw [← HRel.out, bitOf, if_neg HT.out, Nat.zero_xor]
          exact ⟨k, sh x, n, B / 2, Nat.le_of_succ_le hk, HB2, by omega, sh_lt hx, hn, rfl, rfl, by go_num, e3⟩
        case measure => simp [intOf]; omega
theorem and1_i64 (n : Nat) (hn : n < 9223372036854775808) : bits .and .i64 (n : Int) 1 = ((n % 2 : Nat) : Int) := by
  rw [show (1 : Int) = ((1 : Nat) : Int) from rfl]
  have hx : n &&& 1 < 2 ^ 63 := Nat.and_lt_two_pow _ (by omega)
  have e1 : (BitVec.ofInt 64 (n : Int)).toNat = n := by rw [BitVec.ofInt_natCast, BitVec.toNat_ofNat]; exact Nat.mod_eq_of_lt (by omega)
  have e2 : (BitVec.ofInt 64 ((1 : Nat) : Int)).toNat = 1 := by decide
  show IntKind.i64.wrap ((BitVec.ofInt 64 (n : Int) &&& BitVec.ofInt 64 ((1 : Nat) : Int)).toNat : Int) = _
  rw [BitVec.toNat_and, e1, e2, IntKind.wrap_i64, nat_mask1]
  omega
set_option maxHeartbeats 400000 in
theorem join_low (a b : Nat) (m : Int) (w : World) (hm : m < 1) :
    Calls Try.prog 18 #[.int .u32 a, .int .u32 b, .int .i64 m] w fun e w' => e = .returned (.int .u32 a) ∧ w = w' := by
  go_enter Try.func18, Try.ntmps18
  go_wp2
  go_ret
  exact ⟨rfl, rfl⟩
set_option maxHeartbeats 400000 in
theorem join_any (a b m : Nat) (w : World) (ha : a < 4294967296) (hb : b < 4294967296) (hm1 : 1 ≤ m) (hm : m ≤ 9223372036854775807) :
    Calls Try.prog 18 #[.int .u32 a, .int .u32 b, .int .i64 m] w fun e w' => e = .returned (.int .u32 ((shN (8 * m) a ^^^ b : Nat) : Int)) ∧ w = w' := by
  go_enter Try.func18, Try.ntmps18
  go_wp2
  go_loop [0, 2, 7] (fun va vm vp => ∃ (k x e p : Nat), k ≤ 9223372036854775807 ∧ x < 4294967296 ∧ p < 4294967296 ∧ Hid (p = shN e E) ∧ va = .int .u32 x ∧ vm = .int .i64 k ∧ vp = .int .u32 p ∧ Hid (shN (e * k) x = shN (8 * m) a)) (fun _ vm _ => (intOf vm).toNat)
  case atStart => exact ⟨m, a, 8, 8388608, hm, ha, by omega, (by show _ = _; decide), rfl, rfl, rfl, rfl⟩
  case round =>
    obtain ⟨k, x, e, p, hk, hx, hpl, HP, rfl, rfl, rfl, HR⟩ := hrel
    have hand := and1_i64 k (by omega)
    have htp : tm 32 p p < 4294967296 := tm_lt 32 hpl
    have hpp : tm 32 p p = shN (e + e) E := by rw [HP.out, tm_shN _ _ (by rw [← HP.out]; exact hpl), shN_add]
    have HPP := Lib.hid hpp
    clear hpp
    by_cases hk0 : k = 0
    · subst hk0
      have hxor : bits .xor .u32 (x : Int) (b : Int) = ((shN (8 * m) a ^^^ b : Nat) : Int) := by
        rw [u32_xor_nat _ _ hx hb, ← HR.out, Nat.mul_zero]; rfl
      go_wp2
      go_ret
      exact ⟨rfl, rfl⟩
    · rcases Nat.mod_two_eq_zero_or_one k with h2 | h2
      · have hr : shN ((e + e) * (k / 2)) x = shN (8 * m) a := by
          rw [← HR.out]; congr 1; rw [← Nat.mul_two, Nat.mul_assoc]; congr 1; omega
        have hand' : bits .and .i64 (k : Int) 1 = 0 := by rw [hand, h2]; rfl
        have HRR := Lib.hid hr
        clear hr hand h2
        go_wp2_with fail
        refine (times_any p p _ hpl hpl).mono ?_
        rintro e' w' ⟨rfl, rfl⟩
        go_wp2_with fail
        go_round
        case rel => exact ⟨k / 2, x, e + e, _, by omega, hx, htp, HPP, rfl, by go_num, rfl, HRR⟩
        case measure => simp [intOf]; omega
      · have hr : shN ((e + e) * (k / 2)) (tm 32 p x) = shN (8 * m) a := by
          rw [HP.out, tm_shN _ _ hx, ← HR.out, ← shN_add]; congr 1
          rw [← Nat.mul_two, Nat.mul_assoc, Nat.add_comm, ← Nat.mul_succ]; congr 1; omega
        have hand' : bits .and .i64 (k : Int) 1 = 1 := by rw [hand, h2]; rfl
        have HRR := Lib.hid hr
        clear hr hand h2
        go_wp2_with fail
        refine (times_any p x _ hpl hx).mono ?_
        rintro e' w' ⟨rfl, rfl⟩
        go_wp2_with fail
        refine (times_any p p _ hpl hpl).mono ?_
        rintro e' w' ⟨rfl, rfl⟩
        go_wp2_with fail
        go_round
        case rel => exact ⟨k / 2, _, e + e, _, by omega, tm_lt 32 hx, htp, HPP, rfl, by go_num, rfl, HRR⟩
        case measure => simp [intOf]; omega
end Go.Proofs.Ytkdphgcbecldbaa
/- Walks of mix.held and mix.Fits: whether bytes have a sum; any bytes. -/
namespace Go.Proofs.Ytkdphgcbecldbaa
open Go.RowKit MixM

/-- one slice in a new block, as a row of one -/
theorem rs_one {w : World} {B : Nat} {A : Option Addr} {n c : Nat} {l : List Nat} (h : Bs w B ⟨A, n, c⟩ l) (hB : B ≤ w.heap.size) (T : TypeId) :
    Rs (w.alloc (.cells #[.slice A n c] T)) (w.heap.size + 1) ⟨some ⟨w.heap.size, 0, none⟩, 1, 1⟩ [⟨A, n, c⟩] [l] := by
  have hb : Below w.heap.size w (w.alloc (.cells #[.slice A n c] T)) := (Below.refl _ _).alloc (Nat.le_refl _) _
  refine ⟨rfl, rfl, ⟨Nat.le_refl _, by simp only; omega, fun _ => ⟨w.heap.size, 0, rfl, by omega, fun i hi => ?_⟩⟩, fun i hi => ?_⟩
  · obtain rfl : i = 0 := by simp only at hi; omega
    exact cell_of_row (w.alloc (.cells #[.slice A n c] T)) w.heap.size 0 _ _ _ (heap_alloc_new w _)
  · obtain rfl : i = 0 := by simp only at hi; omega
    exact (h.below hb hB).more (by omega)
theorem sum_lt {l : List Nat} (h : Small l) : sum l < 4294967296 := xor_lt (run_lt (by decide) h) (by decide)
/-- the sum of one slice, laid in a new block -/
theorem sum_one {A : Option Addr} {n c : Nat} {l : List Nat} {B : Nat} (w : World) (h : Bs w B ⟨A, n, c⟩ l) (hB : B ≤ w.heap.size) (T : TypeId) :
    Calls Try.prog 16 #[.slice (some ⟨w.heap.size, 0, none⟩) 1 1] (w.alloc (.cells #[.slice A n c] T)) fun e w' => e = .returned (.int .u32 ((sum l : Nat) : Int)) ∧ Below (w.heap.size + 1) (w.alloc (.cells #[.slice A n c] T)) w' := by
  have h1 := sum_any _ 1 1 [⟨A, n, c⟩] [l] (w.alloc (.cells #[.slice A n c] T)) (by rw [World.size_alloc]; exact rs_one h hB T)
  rw [List.flatten_singleton, World.size_alloc] at h1
  exact h1

set_option maxHeartbeats 400000 in
theorem held_yes (A : Option Addr) (n c : Nat) (l : List Nat) (s B : Nat) (w : World) (h : Bs w B ⟨A, n, c⟩ l) (hB : B ≤ w.heap.size) (hs : sum l = s) :
    Calls Try.prog 45 #[.slice A n c, .int .u32 s] w fun e w' => e = .returned .nilIface ∧ Below w.heap.size w w' := by
  have H := Lib.hid h
  subst hs
  clear h
  go_enter Try.func45, Try.ntmps45
  go_wp2_with fail
  refine (sum_one _ H.out hB _).mono ?_
  rintro e w1 ⟨rfl, hb⟩
  go_wp2_with fail
  go_ret
  exact ⟨rfl, ((Below.refl _ _).alloc (Nat.le_refl _) _).trans (hb.mono (by omega))⟩
set_option maxHeartbeats 400000 in
theorem held_no (A : Option Addr) (n c : Nat) (l : List Nat) (s B : Nat) (w : World) (h : Bs w B ⟨A, n, c⟩ l) (hB : B ≤ w.heap.size) (hs : sum l ≠ s) :
    Calls Try.prog 45 #[.slice A n c, .int .u32 s] w fun e w' => e = .returned (.iface 116 (.agg #[.int .u32 s, .int .u32 (sum l : Nat), .int .i64 5])) ∧ Below w.heap.size w w' := by
  have H := Lib.hid h
  have e' : (((sum l : Nat) : Int) != (s : Int)) = true := by simp; omega
  clear h
  go_enter Try.func45, Try.ntmps45
  go_wp2_with fail
  refine (sum_one _ H.out hB _).mono ?_
  rintro e w1 ⟨rfl, hb⟩
  go_wp2_with fail
  go_ret
  exact ⟨rfl, ((Below.refl _ _).alloc (Nat.le_refl _) _).trans (hb.mono (by omega))⟩
set_option maxHeartbeats 400000 in
theorem fits_yes (A : Option Addr) (n c : Nat) (l : List Nat) (s B : Nat) (w : World) (h : Bs w B ⟨A, n, c⟩ l) (hB : B ≤ w.heap.size) (hs : sum l = s) :
    Calls Try.prog 13 #[.slice A n c, .int .u32 s] w fun e w' => e = .returned (.int .i64 0) ∧ Below w.heap.size w w' := by
  have H := Lib.hid h
  have HS := Lib.hid hs
  clear h hs
  go_enter Try.func13, Try.ntmps13
  go_wp2_with fail
  refine (held_yes _ _ _ _ _ _ _ H.out hB HS.out).mono ?_
  rintro e w1 ⟨rfl, hb⟩
  go_wp2_with fail
  refine (is_mix_nil _ _).mono ?_
  rintro e w2 ⟨rfl, rfl⟩
  go_wp2_with fail
  go_ret
  exact ⟨rfl, hb⟩
set_option maxHeartbeats 400000 in
theorem fits_no (A : Option Addr) (n c : Nat) (l : List Nat) (s B : Nat) (w : World) (h : Bs w B ⟨A, n, c⟩ l) (hB : B ≤ w.heap.size) (hs : sum l ≠ s) :
    Calls Try.prog 13 #[.slice A n c, .int .u32 s] w fun e w' => e = .returned (.int .i64 5) ∧ Below w.heap.size w w' := by
  have H := Lib.hid h
  have HS := Lib.hid hs
  clear h hs
  go_enter Try.func13, Try.ntmps13
  go_wp2_with fail
  refine (held_no _ _ _ _ _ _ _ H.out hB HS.out).mono ?_
  rintro e w1 ⟨rfl, hb⟩
  go_wp2_with fail
  refine (is_mix_wrong _ _ _ _).mono ?_
  rintro e w2 ⟨rfl, hb2⟩
  go_wp2_with fail
  go_ret
  exact ⟨rfl, hb.trans (hb2.mono hb.size)⟩
def fitsN (l : List Nat) (s : Nat) : Int := if sum l = s then 0 else 5
/-- whether bytes have a sum -/
theorem fits_any (A : Option Addr) (n c : Nat) (l : List Nat) (s B : Nat) (w : World) (h : Bs w B ⟨A, n, c⟩ l) (hB : B ≤ w.heap.size) :
    Calls Try.prog 13 #[.slice A n c, .int .u32 s] w fun e w' => e = .returned (.int .i64 (fitsN l s)) ∧ Below w.heap.size w w' := by
  unfold fitsN
  by_cases e : sum l = s
  · rw [if_pos e]; exact fits_yes A n c l s B w h hB e
  · rw [if_neg e]; exact fits_no A n c l s B w h hB e
end Go.Proofs.Ytkdphgcbecldbaa
/- Walks of the document's answers shift, Sum, Of, Join, Fits of layer 1; any parts, any numbers of their kinds. -/
namespace Go.Proofs.Ytkdphgcbecldbaa
open Go.RowKit MixM

set_option maxHeartbeats 400000 in
theorem shift_any (n : Nat) (w : World) (hn : n < 4294967296) :
    Calls Try.prog 49 #[.int .u32 n] w fun e w' => e = .returned (.int .u32 ((sh n : Nat) : Int)) ∧ w = w' := by
  rcases Nat.mod_two_eq_zero_or_one n with h | h
  · have hs : sh n = n / 2 := by unfold sh; rw [if_neg (by omega)]
    have h1 : ((n : Int) % 2 == 1) = false := by simp; omega
    go_enter Try.func49, Try.ntmps49
    go_wp2
    go_ret
    exact ⟨by rw [hs]; rfl, rfl⟩
  · have hs : sh n = (n / 2) ^^^ P := by unfold sh; rw [if_pos h]
    have h1 : ((n : Int) % 2 == 1) = true := by simp; omega
    have h2 : bits .xor .u32 ((n : Int) / 2) 2197175160 = ((sh n : Nat) : Int) := by
      rw [hs, show ((n : Int) / 2) = ((n / 2 : Nat) : Int) by omega, show (2197175160 : Int) = ((P : Nat) : Int) from rfl, u32_xor_nat _ _ (by omega) (by decide)]
    clear hs
    go_enter Try.func49, Try.ntmps49
    go_wp2
    go_ret
    exact ⟨rfl, rfl⟩

set_option maxRecDepth 100000 in
set_option maxHeartbeats 1000000 in
theorem refsum_any (A : Option Addr) (n c B : Nat) (ss : List Sl) (ls : List (List Nat)) (w : World) (h : Rs w B ⟨A, n, c⟩ ss ls) :
    Calls Try.prog 17 #[.slice A n c] w fun e w' => e = .returned (.int .u32 ((sum ls.flatten : Nat) : Int)) ∧ w = w' := by
  have H := Lib.hid h
  have hnc : n ≤ c := h.2.2.1.1
  have hcm : c ≤ 9223372036854775807 := h.2.2.1.2.1
  have hF : ∀ k, run F (ls.take k).flatten < 4294967296 := fun k => run_lt (by decide) (small_flat h k)
  clear h
  go_enter Try.func17, Try.ntmps17
  go_wp2
  go_loop [3, 4] (fun v i => ∃ k : Nat, k ≤ n ∧ i = .int .i64 k ∧ v = .int .u32 (run F (ls.take k).flatten : Nat)) (fun _ i => n - (intOf i).toNat)
  case atStart => exact ⟨0, by omega, rfl, rfl⟩
  case round =>
    obtain ⟨k, hk, rfl, rfl⟩ := hrel
    by_cases hkn : k < n
    · have hRk := H.out.2.2.2 k hkn
      obtain ⟨b, o, hA, hbB, hcell⟩ := H.out.2.2.1.2.2 (by omega : 0 < n)
      have hck : w.cell? ⟨b, o + k, none⟩ = some (ss.getD k ⟨none, 0, 0⟩).v := hcell k hkn
      simp only at hA
      subst hA
      generalize hl : ls.getD k [] = l at hRk
      generalize ss.getD k ⟨none, 0, 0⟩ = s at hRk hck
      obtain ⟨A', n', c'⟩ := s
      simp only [Sl.v] at hck
      have HR := Lib.hid hRk
      have HL := Lib.hid hl
      have hn' : n' ≤ c' := hRk.2.2.1
      have hc' : c' ≤ 9223372036854775807 := hRk.2.2.2.1
      have hr0 := hF k
      generalize hr : run F (ls.take k).flatten = r0 at hr0
      have HRun := Lib.hid hr
      have hll := hRk.1
      have HLL := Lib.hid hll
      clear hr hRk hcell hl hll hF
      go_wp2
      go_loop [3, 5] (fun v i => ∃ j : Nat, j ≤ n' ∧ i = .int .i64 j ∧ v = .int .u32 (run r0 (l.take j) : Nat)) (fun _ i => n' - (intOf i).toNat)
      case atStart => exact ⟨0, by omega, rfl, rfl⟩
      case round =>
        obtain ⟨j, hj, rfl, rfl⟩ := hrel
        have hq0 : run r0 (l.take j) < 4294967296 := run_lt hr0 fun x hx => HR.out.2.1 x (List.mem_of_mem_take hx)
        generalize hq : run r0 (l.take j) = q at hq0
        have HQ := Lib.hid hq
        clear hq
        by_cases hjn : j < n'
        · obtain ⟨b1, o1, hA1, hb1, hx⟩ := HR.out.at_ (show 0 < n' by omega)
          have hxj : w.cell? ⟨b1, o1 + j, none⟩ = some (.int .u8 ((l.getD j 0 : Nat) : Int)) := hx j hjn
          have hx8 := HR.out.2.1.at_ j
          simp only at hA1
          subst hA1
          generalize hxe : l.getD j 0 = x at hxj hx8
          have HX := Lib.hid hxe
          have hxor : bits .xor .u32 (q : Int) (x : Int) = ((q ^^^ x : Nat) : Int) := u32_xor_nat _ _ hq0 (by omega)
          have hqx : q ^^^ x < 4294967296 := xor_lt hq0 (by omega)
          clear hxe hx
          go_wp2
          go_loop [3, 6] (fun v i => ∃ r : Nat, r ≤ 8 ∧ i = .int .i64 r ∧ v = .int .u32 (shN r (q ^^^ x) : Nat)) (fun _ i => 8 - (intOf i).toNat)
          case atStart => exact ⟨0, by omega, rfl, rfl⟩
          case round =>
            obtain ⟨r, hr, rfl, rfl⟩ := hrel
            have hs := shN_lt r hqx
            by_cases hr8 : r < 8
            · go_wp2_with fail
              refine (shift_any _ _ hs).mono ?_
              rintro e w' ⟨rfl, rfl⟩
              go_wp2_with fail
              go_round
              case rel => exact ⟨r + 1, by omega, by go_num, by rw [shN_add]; rfl⟩
              case measure => simp [intOf]; omega
            · obtain rfl : r = 8 := by omega
              go_wp2_with fail
              go_round
              case rel => exact ⟨j + 1, by omega, by go_num, by
                rw [List.take_succ_eq_append_getElem (by have : n' = l.length := HLL.out; omega), run_append, HQ.out]
                have hx2 := HX.out
                rw [List.getD_eq_getElem?_getD, List.getElem?_eq_getElem (by have : n' = l.length := HLL.out; omega), Option.getD_some] at hx2
                rw [hx2]; rfl⟩
              case measure => simp [intOf]; omega
        · obtain rfl : j = n' := by omega
          go_wp2_with fail
          go_round
          case rel => exact ⟨k + 1, by omega, by go_num, by
            rw [sum_step HRun.out HL.out (List.append_nil l).symm (by have := H.out.1; have := H.out.2.1; simp only at *; omega), run_nil, ← HQ.out, List.take_of_length_le (Nat.le_of_eq HLL.out.symm)]⟩
          case measure => simp [intOf]; omega
    · obtain rfl : k = n := by omega
      have hk1 := hF k
      have hl := H.out.1
      simp only at hl
      have hfl : ls.take k = ls := List.take_of_length_le (by rw [← H.out.2.1]; omega)
      rw [hfl] at hk1 ⊢
      clear hl hfl
      have hsum : ((sum ls.flatten : Nat) : Int) = 4294967295 - ((run F ls.flatten : Nat) : Int) := by
        unfold sum
        have : ∀ r : Nat, r < 4294967296 → ((r ^^^ F : Nat) : Int) = 4294967295 - (r : Int) := by
          intro r hr
          have e : r ^^^ F = 4294967295 - r := by
            have h1 := Nat.xor_comm r F
            have h2 : r < 2 ^ 32 := hr
            have := BitVec.toNat_not (x := BitVec.ofNat 32 r)
            have h3 : (~~~ (BitVec.ofNat 32 r)).toNat = (BitVec.allOnes 32 ^^^ BitVec.ofNat 32 r).toNat := by rw [BitVec.not_def]
            rw [this, BitVec.toNat_xor, BitVec.toNat_allOnes, BitVec.toNat_ofNat, Nat.mod_eq_of_lt h2] at h3
            rw [h1]
            show 4294967295 ^^^ r = _
            simp only [Nat.reducePow, Nat.reduceSub] at h3
            exact h3.symm
          rw [e]; omega
        exact this _ hk1
      have HSUM := Lib.hid hsum
      clear hsum
      go_wp2
      go_ret
      exact ⟨by rw [HSUM.out]; rfl, rfl⟩

set_option maxHeartbeats 400000 in
theorem of_any (A : Option Addr) (n c B : Nat) (l : List Nat) (w : World) (h : Bs w B ⟨A, n, c⟩ l) (hB : B ≤ w.heap.size) :
    Calls Try.prog 15 #[.slice A n c] w fun e w' => e = .returned (.int .u32 ((sum l : Nat) : Int)) ∧ Below w.heap.size w w' := by
  have H := Lib.hid (rs_one h hB 24)
  clear h
  go_enter Try.func15, Try.ntmps15
  go_wp2_with fail
  refine (refsum_any _ _ _ _ _ _ _ H.out).mono ?_
  rintro e w' ⟨rfl, rfl⟩
  rw [List.flatten_singleton]
  go_wp2_with fail
  go_ret
  exact ⟨rfl, (Below.refl _ _).alloc (Nat.le_refl _) _⟩
set_option maxHeartbeats 400000 in
theorem reffits_any (A : Option Addr) (n c B : Nat) (l : List Nat) (s : Nat) (w : World) (h : Bs w B ⟨A, n, c⟩ l) (hB : B ≤ w.heap.size) :
    Calls Try.prog 14 #[.slice A n c, .int .u32 s] w fun e w' => e = .returned (.int .i64 (fitsN l s)) ∧ Below w.heap.size w w' := by
  have H := Lib.hid h
  clear h
  by_cases e : sum l = s
  · have e' : (((sum l : Nat) : Int) != (s : Int)) = false := by simp [e]
    have e2 : fitsN l s = 0 := if_pos e
    rw [e2]
    clear e e2
    go_enter Try.func14, Try.ntmps14
    go_wp2_with fail
    refine (of_any _ _ _ _ _ _ H.out hB).mono ?_
    rintro e w' ⟨rfl, hb⟩
    go_wp2_with fail
    go_ret
    exact ⟨rfl, hb⟩
  · have e' : (((sum l : Nat) : Int) != (s : Int)) = true := by simp; omega
    have e2 : fitsN l s = 5 := if_neg e
    rw [e2]
    clear e e2
    go_enter Try.func14, Try.ntmps14
    go_wp2_with fail
    refine (of_any _ _ _ _ _ _ H.out hB).mono ?_
    rintro e w' ⟨rfl, hb⟩
    go_wp2_with fail
    go_ret
    exact ⟨rfl, hb⟩
set_option maxHeartbeats 400000 in
theorem refjoin_low (a b : Nat) (m : Int) (w : World) (hm : m < 1) :
    Calls Try.prog 19 #[.int .u32 a, .int .u32 b, .int .i64 m] w fun e w' => e = .returned (.int .u32 a) ∧ w = w' := by
  go_enter Try.func19, Try.ntmps19
  go_wp2
  go_ret
  exact ⟨rfl, rfl⟩
set_option maxHeartbeats 400000 in
theorem refjoin_any (a b m : Nat) (w : World) (ha : a < 4294967296) (hb : b < 4294967296) (hm1 : 1 ≤ m) (hm : m ≤ 9223372036854775807) :
    Calls Try.prog 19 #[.int .u32 a, .int .u32 b, .int .i64 m] w fun e w' => e = .returned (.int .u32 ((shN (8 * m) a ^^^ b : Nat) : Int)) ∧ w = w' := by
  go_enter Try.func19, Try.ntmps19
  go_wp2
  go_loop [7, 8] (fun v i => ∃ k : Nat, k ≤ m ∧ i = .int .i64 k ∧ v = .int .u32 (shN (8 * k) a : Nat)) (fun _ i => m - (intOf i).toNat)
  case atStart => exact ⟨0, by omega, rfl, rfl⟩
  case round =>
    obtain ⟨k, hk, rfl, rfl⟩ := hrel
    have hx := shN_lt (8 * k) ha
    by_cases hkm : k < m
    · go_wp2
      go_loop [7, 9] (fun v i => ∃ r : Nat, r ≤ 8 ∧ i = .int .i64 r ∧ v = .int .u32 (shN r (shN (8 * k) a) : Nat)) (fun _ i => 8 - (intOf i).toNat)
      case atStart => exact ⟨0, by omega, rfl, rfl⟩
      case round =>
        obtain ⟨r, hr, rfl, rfl⟩ := hrel
        have hs := shN_lt r hx
        by_cases hr8 : r < 8
        · go_wp2_with fail
          refine (shift_any _ _ hs).mono ?_
          rintro e w' ⟨rfl, rfl⟩
          go_wp2_with fail
          go_round
          case rel => exact ⟨r + 1, by omega, by go_num, by rw [shN_add r 1]; rfl⟩
          case measure => simp [intOf]; omega
        · obtain rfl : r = 8 := by omega
          go_wp2_with fail
          go_round
          case rel => exact ⟨k + 1, by omega, by go_num, by rw [← shN_add]; rfl⟩
          case measure => simp [intOf]; omega
    · obtain rfl : k = m := by omega
      have hxor : bits .xor .u32 ((shN (8 * k) a : Nat) : Int) (b : Int) = ((shN (8 * k) a ^^^ b : Nat) : Int) := u32_xor_nat _ _ hx hb
      go_wp2
      go_ret
      exact ⟨rfl, rfl⟩
end Go.Proofs.Ytkdphgcbecldbaa
