/- DevWakes: for every input the law returns true, and each argument reads behind the call as it read before. No condition. -/
import Derived.Test.YtkdphgcbecldbaaJWa
import Derived.Test.YtkdphgcbecldbaaJWb
/- The law DevWakes (10), walked. -/
namespace Go.Proofs.Ytkdphgcbecldbaa
open Go.RowKit
theorem three_calls (w : World) (n : Int) (hn : -100 ≤ n ∧ n ≤ 100) :
    Calls Try.prog 9 #[.int .i64 2, .slice (some ⟨w.heap.size + 1 + 1 + 1, 0, none⟩) 11 11] ((((w.alloc (.cells #[.int .u8 1] 5)).alloc (.cells #[.int .u8 2] 5)).alloc (.cells #[.int .u8 3] 5)).alloc (.cells (drows (adeeds n w.heap.size (w.heap.size + 1) (w.heap.size + 1 + 1))).toArray 47)) fun r w' => r = .returned (.bool true) ∧ Gr w w' := by
  have m1 : Mb (w.alloc (.cells #[.int .u8 1] 5)) w.heap.size 1 [1] := ⟨heap_alloc_new w _, rfl, fun x hx => by rw [List.mem_singleton.1 hx]; decide⟩
  have m2 : Mb ((w.alloc (.cells #[.int .u8 1] 5)).alloc (.cells #[.int .u8 2] 5)) (w.heap.size + 1) 1 [2] := ⟨heap_alloc_at (World.size_alloc _ _).symm, rfl, fun x hx => by rw [List.mem_singleton.1 hx]; decide⟩
  have e2 : ((w.alloc (.cells #[.int .u8 1] 5)).alloc (.cells #[.int .u8 2] 5)).heap.size = w.heap.size + 1 + 1 := by rw [World.size_alloc, World.size_alloc]
  have m3 : Mb (((w.alloc (.cells #[.int .u8 1] 5)).alloc (.cells #[.int .u8 2] 5)).alloc (.cells #[.int .u8 3] 5)) (w.heap.size + 1 + 1) 1 [3] := ⟨heap_alloc_at e2.symm, rfl, fun x hx => by rw [List.mem_singleton.1 hx]; decide⟩
  have hg : Gr w (((w.alloc (.cells #[.int .u8 1] 5)).alloc (.cells #[.int .u8 2] 5)).alloc (.cells #[.int .u8 3] 5)) := ((Gr.at_alloc w _).alloc _).alloc _
  have hc := arms_calls (n := n) ⟨(m1.gr (Gr.at_alloc _ _)).gr (Gr.at_alloc _ _), m2.gr (Gr.at_alloc _ _), m3⟩ hn
  rw [World.size_alloc, e2] at hc
  refine hc.mono ?_
  rintro r w' ⟨rfl, h⟩
  exact ⟨rfl, Gr.step h hg⟩
set_option maxRecDepth 100000 in
set_option maxHeartbeats 8000000 in
theorem wakes_ok (w : World) : Calls Try.prog 10 #[] w fun r w' => r = .returned (.bool true) ∧ Gr w w' := by
  go_enter Try.func10, Try.ntmps10
  go_wp2_with fail
  go_loopw [1] (fun i wr => ∃ a : Int, 0 ≤ a ∧ a ≤ 8 ∧ i = .int .i64 a ∧ Hid (Gr w wr)) (fun i _ => (8 - intOf i).toNat)
  case atStart => exact ⟨0, by omega, by omega, rfl, Below.refl _ _⟩
  case round =>
    obtain ⟨a, ha1, ha2, rfl, HG⟩ := hrel
    by_cases hlt : a < 8
    · go_wp2_with fail
      go_loopw [2] (fun i wr => ∃ t : Int, -1 ≤ t ∧ t ≤ 4 ∧ i = .int .i64 t ∧ Hid (Gr w wr)) (fun i _ => (4 - intOf i).toNat)
      case atStart => exact ⟨-1, by omega, by omega, rfl, HG.out⟩
      case round =>
        clear HG
        obtain ⟨t, ht1, ht2, rfl, HG⟩ := hrel
        by_cases hlt2 : t < 4
        · go_wp2_with fail
          go_loopw [3] (fun i wr => ∃ p : Int, -1 ≤ p ∧ p ≤ 10 ∧ i = .int .i64 p ∧ Hid (Gr w wr)) (fun i _ => (10 - intOf i).toNat)
          case atStart => exact ⟨-1, by omega, by omega, rfl, HG.out⟩
          case round =>
            clear HG
            obtain ⟨p, hp1, hp2, rfl, HG⟩ := hrel
            by_cases hlt3 : p < 10
            · obtain ⟨p2, hp3, hp4⟩ : ∃ p2, p.tmod 2 = p2 ∧ (p2 = -1 ∨ p2 = 0 ∨ p2 = 1) := ⟨p.tmod 2, rfl, by
                have h1 := Int.tmod_lt_of_pos p (show (0 : Int) < 2 by omega)
                have h2 := Int.tmod_lt_of_pos (-p) (show (0 : Int) < 2 by omega)
                rw [Int.neg_tmod] at h2
                omega⟩
              obtain ⟨q, hq, hq1, hq2⟩ : ∃ q, p2 * p = q ∧ -10 ≤ q ∧ q ≤ 10 := ⟨p2 * p, rfl, by rcases hp4 with rfl | rfl | rfl <;> omega, by rcases hp4 with rfl | rfl | rfl <;> omega⟩
              obtain ⟨q2, hq3, hq4, hq5⟩ : ∃ q2, q.tmod 2 = q2 ∧ -2 < q2 ∧ q2 < 2 := ⟨q.tmod 2, rfl, by
                have h2 := Int.tmod_lt_of_pos (-q) (show (0 : Int) < 2 by omega)
                rw [Int.neg_tmod] at h2
                omega, Int.tmod_lt_of_pos q (by omega)⟩
              obtain ⟨a2, ha3, ha4, ha5⟩ : ∃ a2, a.tmod 2 = a2 ∧ -2 < a2 ∧ a2 < 2 := ⟨a.tmod 2, rfl, by
                have h2 := Int.tmod_lt_of_pos (-a) (show (0 : Int) < 2 by omega)
                rw [Int.neg_tmod] at h2
                omega, Int.tmod_lt_of_pos a (by omega)⟩
              go_wp2_with fail
              refine (bytes_mb 256 1 _ (by omega) (by omega) (by omega)).mono ?_
              rintro e w1 ⟨g1, l1, rfl, hm1, hg1⟩
              have HM1 := Lib.hid hm1
              have HG1 := Lib.hid (Gr.step hg1 HG.out)
              clear hm1 hg1
              go_wp2_with fail
              refine (bytes_mb 256 2 _ (by omega) (by omega) (by omega)).mono ?_
              rintro e w2 ⟨g2, l2, rfl, hm2, hg2⟩
              have HM2 := Lib.hid (And.intro (HM1.out.gr hg2) hm2)
              have HG2 := Lib.hid (Gr.step hg2 HG1.out)
              clear hm2 hg2 HM1 HG1
              go_wp2_with fail
              refine (bytes_mb 256 30 _ (by omega) (by omega) (by omega)).mono ?_
              rintro e w3 ⟨g3, l3, rfl, hm3, hg3⟩
              have HM3 := Lib.hid (And.intro (HM2.out.1.gr hg3) (And.intro (HM2.out.2.gr hg3) hm3))
              have HG3 := Lib.hid (Gr.step hg3 HG2.out)
              clear hm3 hg3 HM2 HG2
              go_wp2_with fail
              refine (bytes_mb 200 60 _ (by omega) (by omega) (by omega)).mono ?_
              rintro e w4 ⟨g4, l4, rfl, hm4, hg4⟩
              have HM4 := Lib.hid (And.intro (HM3.out.1.gr hg4) (And.intro (HM3.out.2.1.gr hg4) (And.intro (HM3.out.2.2.gr hg4) hm4)))
              have HG4 := Lib.hid (Gr.step hg4 HG3.out)
              clear hm4 hg4 HM3 HG3
              go_wp2_with fail
              refine (bytes_mb 256 90 _ (by omega) (by omega) (by omega)).mono ?_
              rintro e w5 ⟨g5, l5, rfl, hm5, hg5⟩
              have HM5 := Lib.hid (And.intro (HM4.out.1.gr hg5) (And.intro (HM4.out.2.1.gr hg5) (And.intro (HM4.out.2.2.1.gr hg5) (And.intro (HM4.out.2.2.2.gr hg5) hm5))))
              have HG5 := Lib.hid (Gr.step hg5 HG4.out)
              clear hm5 hg5 HM4 HG4
              go_wp2_with fail
              refine (wakes_calls (a := a) (t := t) (p := p) (q2 := q2) (a2 := a2) HM5.out (by omega) (by omega) (by omega) (by omega) (by omega)).mono ?_
              rintro e w6 ⟨rfl, hg6⟩
              have HG6 := Lib.hid (Gr.step hg6 HG5.out)
              clear hg6 HG5 HM5
              go_wp2_with fail
              go_roundw
              case rel => exact ⟨p + 1, by omega, by omega, by go_num, HG6.out⟩
              case measure => simp [intOf]; omega
            · go_wp2_with fail
              go_roundw
              case rel => exact ⟨t + 1, by omega, by omega, by go_num, HG.out⟩
              case measure => simp [intOf]; omega
        · go_wp2_with fail
          go_roundw
          case rel => exact ⟨a + 1, by omega, by omega, by go_num, HG.out⟩
          case measure => simp [intOf]; omega
    · go_wp2_with fail
      go_loopw [5] (fun i wr => ∃ n : Int, -1 ≤ n ∧ n ≤ 9 ∧ i = .int .i64 n ∧ Hid (Gr w wr)) (fun i _ => (9 - intOf i).toNat)
      case atStart => exact ⟨-1, by omega, by omega, rfl, HG.out⟩
      case round =>
        clear HG
        obtain ⟨n, hn1, hn2, rfl, HG⟩ := hrel
        by_cases hlt4 : n < 9
        · go_wp2_with fail
          have hc := three_calls wr n (by omega)
          refine hc.mono ?_
          clear hc
          rintro e w1 ⟨rfl, hg1⟩
          have HG1 := Lib.hid (Gr.step hg1 HG.out)
          clear hg1
          go_wp2_with fail
          go_roundw
          case rel => exact ⟨n + 1, by omega, by omega, by go_num, HG1.out⟩
          case measure => simp [intOf]; omega
        · go_wp2_with fail
          refine (ends_ok _).mono ?_
          rintro e w1 ⟨rfl, hg1⟩
          have HG1 := Lib.hid (Gr.step hg1 HG.out)
          clear hg1
          go_wp2_with fail
          refine (none_ok _).mono ?_
          rintro e w2 ⟨rfl, hg2⟩
          have HG2 := Lib.hid (Gr.step hg2 HG1.out)
          clear hg2
          go_wp2_with fail
          refine (awake_ok _).mono ?_
          rintro e w3 ⟨rfl, hg3⟩
          have HG3 := Lib.hid (Gr.step hg3 HG2.out)
          clear hg3
          go_wp2_with fail
          go_ret
          exact ⟨rfl, HG3.out⟩
end Go.Proofs.Ytkdphgcbecldbaa
namespace Go.Proofs.Ytkdphgcbecldbaa
namespace devWakes
open Go.ChangeShapes Go.WideShapes Go.ChangeAt Go.RowKit

set_option maxRecDepth 100000 in
theorem lifted (os : Os) (started : os.Started) (H : Type) (enc : TypeId × Value → H) :
    ReturnsInHanded {} Try.checked os 10 .any (Rows.devWakesSpec.pre6 enc Try.prog Try.f10 Rows.devWakesRow.domain false) (Rows.devWakesSpec.post enc Try.prog Try.f10 false true false false) := by
  refine returnsInHanded_of_change_sized (C := Try.checked) own started (by kernel_rfl) Try.func10
    (ChangeSpec.witness6 (enc := enc) (C := Try.checked) false ⟨#[], #[], []⟩ 8 (by kernel_rfl) (by kernel_rfl) (by kernel_rfl) (by kernel_rfl)) ?_
  intro W base args ds gs before hval0 hW hcnd hsz _
  have hval : ∀ (j : Nat) t v, Try.f10.params[j]? = some t → args[j]? = some v → Value.okWide Try.prog W .any base t v := hval0
  have hW' := hW
  obtain ⟨p, q, hA0, hV, rfl, hfz, hnd⟩ := hW
  have hA : DataW.TrodAll enc Try.prog W 0 (fun _ => true) true Try.f10.params.toList args.toList ds p := hA0
  rw [Try.params10] at hA hval hsz
  obtain ⟨hargs, rfl, rfl⟩ := trodAll_nil hA
  obtain rfl : args = #[] := by cases args; simp_all
  obtain ⟨rfl, rfl⟩ := trodVars_none hV
  clear hA0 hval0
  refine (wakes_ok W).mono fun e W' ⟨he, bel⟩ => ?_
  have bel : Below W.heap.size W W' := bel
  subst he
  exact ⟨_, rfl, _, _, _, [], _, [], hW', trodAll_mk1 (shut_bool Try.underlying4 _), trodAll_mk0, rfl, bel.frame _, fun h => by cases h⟩

theorem over : Rows.devWakesRow.holds Try.pinned (OpenSpec.ofChange Rows.devWakesSpec) :=
  OpenClaim.holds_of_wide 10 Try.f10 rfl rfl rfl rfl rfl rfl rfl ⟨rfl, rfl, rfl, rfl, rfl⟩ rfl rfl rfl rfl rfl (by kernel_rfl) Try.func10 (by kernel_rfl)
    (of_decide_eq_true (by kernel_rfl)) (by unfold Func.isWrapper; first | (rw [if_pos (by decide +kernel)]; kernel_rfl) | (rw [if_neg (by decide +kernel)]; exact ⟨rfl, rfl⟩))
    (fun os started H enc _ => lifted os started H enc)

/-- the statement -/
theorem proved : Rows.DevWakesSaid := over
#print axioms proved
end devWakes
end Go.Proofs.Ytkdphgcbecldbaa
