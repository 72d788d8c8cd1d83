/- Walk of mix.Sum: the sum of any parts; it makes memory of its own and leaves all that was. -/
import Derived.Test.YtkdphgcbecldbaaMixA
import Derived.Test.YtkdphgcbecldbaaWords
import Derived.BigQuiet
import Derived.Deep.QuietTactic
namespace Go.Proofs.Ytkdphgcbecldbaa
open Go.RowKit MixM

theorem made_lit (w : World) :
    Calls Try.prog 46 #[] w fun e w' => ∃ c0 c1 c2 c3 c4 c5 c6 c7 c8 c9 c10 c11 c12 c13 c14 c15 : Int, e = .returned (.agg #[.int .u32 c0, .int .u32 c1, .int .u32 c2, .int .u32 c3, .int .u32 c4, .int .u32 c5, .int .u32 c6, .int .u32 c7, .int .u32 c8, .int .u32 c9, .int .u32 c10, .int .u32 c11, .int .u32 c12, .int .u32 c13, .int .u32 c14, .int .u32 c15]) ∧ Hid (tabC 16 = #[.int .u32 c0, .int .u32 c1, .int .u32 c2, .int .u32 c3, .int .u32 c4, .int .u32 c5, .int .u32 c6, .int .u32 c7, .int .u32 c8, .int .u32 c9, .int .u32 c10, .int .u32 c11, .int .u32 c12, .int .u32 c13, .int .u32 c14, .int .u32 c15]) ∧ Below w.heap.size w w' := by
  obtain ⟨c0, c1, c2, c3, c4, c5, c6, c7, c8, c9, c10, c11, c12, c13, c14, c15, hC⟩ := tabC_open
  refine (made_any w).mono fun e w' ⟨he, hw⟩ => ?_
  exact ⟨c0, c1, c2, c3, c4, c5, c6, c7, c8, c9, c10, c11, c12, c13, c14, c15, by rw [he, hC], hC, hw⟩

theorem tabAt_new (w : World) {cs : Array Value} (h : tabC 16 = cs) : TabAt (w.alloc (.cells cs 74)) w.heap.size := by
  intro i hi
  rw [← h]
  have := tabC_at 16 i hi
  rw [if_pos hi] at this
  rw [← this]
  exact cell_of_row _ _ _ _ _ _ (heap_alloc_new w _)
def lenV : Value → Nat | .slice _ n _ => n | _ => 0
theorem small_flat {w : World} {B : Nat} {s : Sl} {ss : List Sl} {ls : List (List Nat)} (h : Rs w B s ss ls) (k : Nat) : Small (ls.take k).flatten := by
  intro x hx
  obtain ⟨l, hl, hxl⟩ := List.mem_flatten.1 hx
  obtain ⟨i, hi, rfl⟩ := List.getElem_of_mem (List.mem_of_mem_take hl)
  have := (h.2.2.2 i (by rw [h.1, h.2.1]; exact hi)).2.1
  rw [List.getD_eq_getElem?_getD, List.getElem?_eq_getElem hi] at this
  exact this x hxl
theorem take_lt {n x : Nat} (hn : n < 4294967296) (hx : x < 256) : MixM.take n x < 4294967296 := shN_lt _ (xor_lt hn (by omega))
theorem below_drewN {B : Nat} {a w : World} (h : Below B a w) (n : Nat) : Below B a (w.drewN n) := ⟨h.os, h.tape, h.output, h.size, h.block⟩
theorem orJoin (i x y : Nat) (hx : x % 2 ^ i = 0) (hy : y < 2 ^ i) : y ||| x = y ^^^ x := by
  apply Nat.eq_of_testBit_eq
  intro j
  rw [Nat.testBit_or, Nat.testBit_xor]
  by_cases h : j < i
  · have : x.testBit j = false := by
      have h1 : x = x / 2 ^ i * 2 ^ i := by have := Nat.div_add_mod x (2 ^ i); rw [hx, Nat.add_zero, Nat.mul_comm] at this; exact this.symm
      rw [h1, Nat.testBit_mul_two_pow]
      simp; omega
    simp [this]
  · have : y.testBit j = false := Nat.testBit_lt_two_pow (Nat.lt_of_lt_of_le hy (Nat.pow_le_pow_right (by decide) (by omega)))
    simp [this]
theorem word4_lt {q x y z t : Nat} (hq : q < 4294967296) (hx : x < 256) (hy : y < 256) (hz : z < 256) (ht : t < 256) : q ^^^ (x ^^^ y * 256 ^^^ z * 65536 ^^^ t * 16777216) < 4294967296 :=
  xor_lt hq (xor_lt (xor_lt (xor_lt (by omega) (by omega)) (by omega)) (by omega))
theorem word4 {q x y z t : Nat} (hq : q < 4294967296) (hx : x < 256) (hy : y < 256) (hz : z < 256) (ht : t < 256) :
    bits .xor .u32 (q : Int) (bits .or .u32 (bits .or .u32 (bits .or .u32 (x : Int) ((y : Int) * 256)) ((z : Int) * 65536)) ((t : Int) * 16777216)) = ((q ^^^ (x ^^^ y * 256 ^^^ z * 65536 ^^^ t * 16777216) : Nat) : Int) := by
  have e1 : ((y : Int) * 256) = ((y * 256 : Nat) : Int) := by omega
  have e2 : ((z : Int) * 65536) = ((z * 65536 : Nat) : Int) := by omega
  have e3 : ((t : Int) * 16777216) = ((t * 16777216 : Nat) : Int) := by omega
  have l1 : x ^^^ y * 256 < 2 ^ 16 := Nat.xor_lt_two_pow (by omega) (by omega)
  have l2 : x ^^^ y * 256 ^^^ z * 65536 < 2 ^ 24 := Nat.xor_lt_two_pow (by omega) (by omega)
  rw [e1, e2, e3, u32_or_nat _ _ (by omega) (by omega), orJoin 8 (y * 256) x (by omega) (by omega), u32_or_nat _ _ (by omega) (by omega), orJoin 16 (z * 65536) _ (by omega) l1,
    u32_or_nat _ _ (by omega) (by omega), orJoin 24 (t * 16777216) _ (by omega) l2, u32_xor_nat _ _ hq (xor_lt (by omega) (by omega))]
theorem compl {r : Nat} (hr : r < 4294967296) : bits .xor .u32 IntKind.u32.max (r : Int) = ((r ^^^ F : Nat) : Int) := by
  rw [show IntKind.u32.max = ((4294967295 : Nat) : Int) from rfl, u32_xor_nat _ _ (by omega) hr, Nat.xor_comm]; rfl
theorem sum_step {k r0 : Nat} {ls : List (List Nat)} {l p m : List Nat} (h1 : run F (ls.take k).flatten = r0) (h2 : ls.getD k [] = l) (h3 : l = p ++ m) (hk : k < ls.length) :
    run F (ls.take (k + 1)).flatten = run (run r0 p) m := by
  rw [List.take_succ_eq_append_getElem hk, List.flatten_append, run_append, h1, List.flatten_singleton]
  rw [List.getD_eq_getElem?_getD, List.getElem?_eq_getElem hk, Option.getD_some] at h2
  rw [h2, h3, run_append]
set_option maxRecDepth 100000 in
set_option maxHeartbeats 1000000 in
theorem sum_any (A : Option Addr) (n c : Nat) (ss : List Sl) (ls : List (List Nat)) (w : World) (h : Rs w w.heap.size ⟨A, n, c⟩ ss ls) :
    Calls Try.prog 16 #[.slice A n c] w fun e w' => e = .returned (.int .u32 ((sum ls.flatten : Nat) : Int)) ∧ Below w.heap.size w w' := by
  have H := Lib.hid h
  have hnc : n ≤ c := h.2.2.1.1
  have hcm : c ≤ 9223372036854775807 := h.2.2.1.2.1
  clear h
  go_enter Try.func16, Try.ntmps16
  go_wp2_with fail
  refine (made_lit _).mono ?_
  rintro e w1 ⟨c0, c1, c2, c3, c4, c5, c6, c7, c8, c9, c10, c11, c12, c13, c14, c15, rfl, hC, hb1⟩
  go_wp2_with fail
  have htab : TabAt (w1.alloc (.cells #[.int .u32 c0, .int .u32 c1, .int .u32 c2, .int .u32 c3, .int .u32 c4, .int .u32 c5, .int .u32 c6, .int .u32 c7, .int .u32 c8, .int .u32 c9, .int .u32 c10, .int .u32 c11, .int .u32 c12, .int .u32 c13, .int .u32 c14, .int .u32 c15] 74)) w1.heap.size := tabAt_new _ hC.out
  have hb2 : Below w.heap.size w (w1.alloc (.cells #[.int .u32 c0, .int .u32 c1, .int .u32 c2, .int .u32 c3, .int .u32 c4, .int .u32 c5, .int .u32 c6, .int .u32 c7, .int .u32 c8, .int .u32 c9, .int .u32 c10, .int .u32 c11, .int .u32 c12, .int .u32 c13, .int .u32 c14, .int .u32 c15] 74)) := hb1.alloc hb1.size _
  have hlt : w1.heap.size < (w1.alloc (.cells #[.int .u32 c0, .int .u32 c1, .int .u32 c2, .int .u32 c3, .int .u32 c4, .int .u32 c5, .int .u32 c6, .int .u32 c7, .int .u32 c8, .int .u32 c9, .int .u32 c10, .int .u32 c11, .int .u32 c12, .int .u32 c13, .int .u32 c14, .int .u32 c15] 74)).heap.size := by rw [World.size_alloc]; omega
  clear hC
  generalize w1.alloc (.cells #[.int .u32 c0, .int .u32 c1, .int .u32 c2, .int .u32 c3, .int .u32 c4, .int .u32 c5, .int .u32 c6, .int .u32 c7, .int .u32 c8, .int .u32 c9, .int .u32 c10, .int .u32 c11, .int .u32 c12, .int .u32 c13, .int .u32 c14, .int .u32 c15] 74) = W0 at *
  generalize Value.agg #[.int .u32 c0, .int .u32 c1, .int .u32 c2, .int .u32 c3, .int .u32 c4, .int .u32 c5, .int .u32 c6, .int .u32 c7, .int .u32 c8, .int .u32 c9, .int .u32 c10, .int .u32 c11, .int .u32 c12, .int .u32 c13, .int .u32 c14, .int .u32 c15] = V7
  have hbs := hb1.size
  clear hb1
  generalize w1.heap.size = tb at *
  have HT := Lib.hid htab
  have HB := Lib.hid hb2
  clear htab hb2
  go_loopw [4, 10] (fun v i wr => ∃ k : Nat, k ≤ n ∧ i = .int .i64 k ∧ v = .int .u32 (run F (ls.take k).flatten : Nat) ∧ Below W0.heap.size W0 wr) (fun _ i _ => n - (intOf i).toNat)
  case atStart => exact ⟨0, by omega, rfl, rfl, Below.refl _ _⟩
  case round =>
    obtain ⟨k, hk, rfl, rfl, hbel⟩ := hrel
    by_cases hkn : k < n
    · have H1 := H.out.below HB.out (Nat.le_refl _)
      have hRk := H1.2.2.2 k hkn
      obtain ⟨b, o, hA, hbB, hcell⟩ := H1.2.2.1.2.2 (by omega : 0 < n)
      have hck : wr.cell? ⟨b, o + k, none⟩ = some (ss.getD k ⟨none, 0, 0⟩).v := (hbel.cell (Nat.lt_of_lt_of_le hbB (by have := HB.out.size; omega))).trans (hcell k hkn)
      simp only at hA
      subst hA
      generalize hl : ls.getD k [] = l at hRk
      generalize ss.getD k ⟨none, 0, 0⟩ = s at hRk hck
      obtain ⟨A', n', c'⟩ := s
      simp only [Sl.v] at hck
      have HR := Lib.hid hRk
      have HL := Lib.hid hl
      clear H1 hRk hcell hl
      have hr0 : run F (ls.take k).flatten < 4294967296 := run_lt (by decide) (small_flat H.out k)
      generalize hr : run F (ls.take k).flatten = r0 at hr0
      have HRun := Lib.hid hr
      clear hr
      go_wp2
      go_loopw [4, 6] (fun v sl w' => ∃ (p m : List Nat) (A1 : Option Addr) (n1 c1 : Nat), Hid (l = p ++ m) ∧ sl = .slice A1 n1 c1 ∧ v = .int .u32 (run r0 p : Nat) ∧ Bs w' W0.heap.size ⟨A1, n1, c1⟩ m ∧ Below W0.heap.size W0 w') (fun _ sl _ => lenV sl)
      case atStart => exact ⟨[], l, A', n', c', rfl, rfl, rfl, (HR.out.more (by have := HB.out.size; omega)).below hbel (Nat.le_refl _), hbel⟩
      case round =>
        obtain ⟨p, m, A1, n1, c1, HM, rfl, rfl, hbs1, hbel1⟩ := hrel
        have hn1 := hbs1.2.2.1
        have hc1 := hbs1.2.2.2.1
        have hp : run r0 p < 4294967296 := run_lt hr0 fun x hx => HR.out.2.1 x (by rw [HM.out]; simp [hx])
        generalize hq : run r0 p = q at hp
        have HQ := Lib.hid hq
        clear hq
        simp only at hn1 hc1
        obtain rfl : m.length = n1 := hbs1.1.symm
        have HT1 : Hid (TabAt wr tb) := HT.out.below hbel1 hlt
        rcases m with _ | ⟨x, _ | ⟨y, _ | ⟨z, _ | ⟨t, m⟩⟩⟩⟩
        · clear hbs1
          simp only [List.length_nil] at *
          go_wp2_with fail
          refine ⟨⟨k + 1, by omega, by go_num, ?_, hbel1⟩, by simp [intOf]; omega⟩
          rw [sum_step HRun.out HL.out HM.out (by have := H.out.1; have := H.out.2.1; simp only at *; omega), ← HQ.out]
          rfl
        · obtain ⟨b1, o1, hA1, hb1, hx⟩ := hbs1.at_ (by simp)
          simp only at hA1 hx
          subst hA1
          have hx0 := hx 0 (by simp)
          simp only [Nat.add_zero, List.getD_cons_zero] at hx0
          have s0 : x < 256 := hbs1.2.1 x (by simp)
          clear hbs1 hx
          simp only [List.length_cons, List.length_nil, Nat.zero_add] at hn1 ⊢
          go_wp2_with fail
          refine (take_any tb q x _ hp s0 HT1.out).mono ?_
          rintro e w' ⟨rfl, rfl⟩
          go_wp2_with fail
          refine ⟨⟨k + 1, by omega, by go_num, ?_, hbel1⟩, by simp [intOf]; omega⟩
          rw [sum_step HRun.out HL.out HM.out (by have := H.out.1; have := H.out.2.1; simp only at *; omega), ← HQ.out]
          rfl
        · obtain ⟨b1, o1, hA1, hb1, hx⟩ := hbs1.at_ (by simp)
          simp only at hA1 hx
          subst hA1
          have hx0 := hx 0 (by simp)
          have hx1 := hx 1 (by simp)
          simp only [Nat.add_zero, List.getD_cons_zero, List.getD_cons_succ] at hx0 hx1
          have s0 : x < 256 := hbs1.2.1 x (by simp)
          have s1 : y < 256 := hbs1.2.1 y (by simp)
          clear hbs1 hx
          simp only [List.length_cons, List.length_nil, Nat.zero_add, Nat.reduceAdd] at hn1 ⊢
          go_wp2_with fail
          refine (take_any tb q x _ hp s0 HT1.out).mono ?_
          rintro e w' ⟨rfl, rfl⟩
          go_wp2_with fail
          refine (take_any tb (MixM.take q x) y _ (take_lt hp s0) s1 HT1.out).mono ?_
          rintro e w' ⟨rfl, rfl⟩
          go_wp2_with fail
          refine ⟨⟨k + 1, by omega, by go_num, ?_, hbel1⟩, by simp [intOf]; omega⟩
          rw [sum_step HRun.out HL.out HM.out (by have := H.out.1; have := H.out.2.1; simp only at *; omega), ← HQ.out]
          rfl
        · obtain ⟨b1, o1, hA1, hb1, hx⟩ := hbs1.at_ (by simp)
          simp only at hA1 hx
          subst hA1
          have hx0 := hx 0 (by simp)
          have hx1 := hx 1 (by simp)
          have hx2 := hx 2 (by simp)
          simp only [Nat.add_zero, List.getD_cons_zero, List.getD_cons_succ] at hx0 hx1 hx2
          have s0 : x < 256 := hbs1.2.1 x (by simp)
          have s1 : y < 256 := hbs1.2.1 y (by simp)
          have s2 : z < 256 := hbs1.2.1 z (by simp)
          clear hbs1 hx
          simp only [List.length_cons, List.length_nil, Nat.zero_add, Nat.reduceAdd] at hn1 ⊢
          go_wp2_with fail
          refine (take_any tb q x _ hp s0 HT1.out).mono ?_
          rintro e w' ⟨rfl, rfl⟩
          go_wp2_with fail
          refine (take_any tb (MixM.take q x) y _ (take_lt hp s0) s1 HT1.out).mono ?_
          rintro e w' ⟨rfl, rfl⟩
          go_wp2_with fail
          refine (take_any tb (MixM.take (MixM.take q x) y) z _ (take_lt (take_lt hp s0) s1) s2 HT1.out).mono ?_
          rintro e w' ⟨rfl, rfl⟩
          go_wp2_with fail
          refine ⟨⟨k + 1, by omega, by go_num, ?_, hbel1⟩, by simp [intOf]; omega⟩
          rw [sum_step HRun.out HL.out HM.out (by have := H.out.1; have := H.out.2.1; simp only at *; omega), ← HQ.out]
          rfl
        · obtain ⟨b1, o1, hA1, hb1, hx⟩ := hbs1.at_ (by simp)
          simp only at hA1 hx
          subst hA1
          have hx0 := hx 0 (by simp)
          have hx1 := hx 1 (by simp)
          have hx2 := hx 2 (by simp)
          have hx3 := hx 3 (by simp)
          simp only [Nat.add_zero, List.getD_cons_zero, List.getD_cons_succ] at hx0 hx1 hx2 hx3
          have s0 : x < 256 := hbs1.2.1 x (by simp)
          have s1 : y < 256 := hbs1.2.1 y (by simp)
          have s2 : z < 256 := hbs1.2.1 z (by simp)
          have s3 : t < 256 := hbs1.2.1 t (by simp)
          have HB1 := Lib.hid hbs1
          clear hbs1 hx
          have hge : 4 ≤ (x :: y :: z :: t :: m).length := by simp
          generalize hlen : (x :: y :: z :: t :: m).length = n1 at *
          have HLen := Lib.hid hlen
          clear hlen
          have hd3 : decide (3 < (n1 : Int)) = true := by simp; omega
          go_wp2_with fail
          have eM := word4 hp s0 s1 s2 s3
          have hM := word4_lt hp s0 s1 s2 s3
          have EM := Lib.hid eM
          clear eM
          go_quiet (fail)
          rw [EM.out]
          clear EM
          generalize hmm : q ^^^ (x ^^^ y * 256 ^^^ z * 65536 ^^^ t * 16777216) = mm at hM
          have HMM := Lib.hid hmm
          clear hmm hx0 hx1 hx2 hx3
          have HB2 : Hid (Below W0.heap.size W0 (wr.drewN nq)) := below_drewN hbel1 nq
          have HT2 : Hid (TabAt (wr.drewN nq) tb) := HT1.out
          have HB3 : Hid (Bs (wr.drewN nq) W0.heap.size ⟨some ⟨b1, o1, none⟩, n1, c1⟩ (x :: y :: z :: t :: m)) := HB1.out
          clear HT1 HB1 hbel1
          generalize wr.drewN nq = wq at *
          go_wp2_with fail
          go_loop [4, 43] (fun v i => ∃ r : Nat, r ≤ 8 ∧ i = .int .i64 r ∧ v = .int .u32 (shN (4 * r) mm : Nat)) (fun _ i => 8 - (intOf i).toNat)
          case atStart => exact ⟨0, by omega, rfl, rfl⟩
          case round =>
            obtain ⟨r, hr, rfl, rfl⟩ := hrel
            have hsm : shN (4 * r) mm < 4294967296 := shN_lt _ hM
            by_cases hr8 : r < 8
            · go_wp2_with fail
              refine (half_any tb (shN (4 * r) mm) _ hsm HT2.out).mono ?_
              rintro e w' ⟨rfl, rfl⟩
              go_wp2_with fail
              go_round
              case rel => exact ⟨r + 1, by omega, by go_num, by rw [← shN_add]; rfl⟩
              case measure => simp [intOf]; omega
            · obtain rfl : r = 8 := by omega
              go_wp2_with fail
              refine ⟨⟨p ++ [x, y, z, t], m, _, _, _, ?_, rfl, ?_, HB3.out.cut 4 (by simp only; omega), HB2.out⟩, ?_⟩
              · show l = _
                rw [HM.out]; simp
              · rw [← HMM.out, run_append, HQ.out]
                show Value.int IntKind.u32 ((shN 32 _ : Nat) : Int) = _
                rw [take4]; rfl
              · simp only [lenV]; omega
    · obtain rfl : k = n := by omega
      go_wp2
      go_ret
      refine ⟨?_, HB.out.trans (hbel.mono HB.out.size)⟩
      have hl := H.out.1
      simp only at hl
      have hF : run F ls.flatten < 4294967296 := run_lt (by decide) (by have := small_flat H.out ls.length; rwa [List.take_of_length_le (Nat.le_refl _)] at this)
      rw [List.take_of_length_le (by rw [← H.out.2.1]; omega)]
      refine congrArg Ending.returned ?_
      show Value.int .u32 (bits .xor .u32 IntKind.u32.max ((run F ls.flatten : Nat) : Int)) = _
      rw [compl hF]; rfl
end Go.Proofs.Ytkdphgcbecldbaa
