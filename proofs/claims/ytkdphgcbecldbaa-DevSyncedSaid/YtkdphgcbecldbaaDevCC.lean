/- The law's example: awake (23). -/
import Derived.Test.YtkdphgcbecldbaaDevBB
namespace Go.Proofs.Ytkdphgcbecldbaa
open Go.RowKit
theorem wake_pure (n : Nat) (hn : n < 2) : wkb n (-1) 0 (stb (fun _ => Z 256) [(0, pad [1])]) [(0, pad [2])] 0 = pad [1 + n] := by
  have h0 : n = 0 ∨ n = 1 := by omega
  rcases h0 with rfl | rfl
  · rfl
  · show over ((pad [2]).take (32 * 8)) (pad [1]) = pad [2]
    exact over_all (pad_len (by decide)) (pad_len (by decide))
theorem awake_one {w1 : World} {x : Nat} (hx : x < 256) : Bs (w1.alloc (.cells #[.int .u8 x] 5)) (w1.alloc (.cells #[.int .u8 x] 5)).heap.size ⟨some ⟨w1.heap.size, 0, none⟩, 1, 1⟩ [x] :=
  bs_blk (l := [x]) (heap_alloc_new w1 _) (fun y hy => by rw [List.mem_singleton.1 hy]; exact hx) (by show 1 ≤ 1000000; decide)
set_option maxRecDepth 100000 in
set_option maxHeartbeats 2000000 in
theorem awake_ok (w : World) : Calls Try.prog 23 #[] w fun r w' => r = .returned (.bool true) ∧ Gr w w' := by
  go_enter Try.func23, Try.ntmps23
  go_wp2_with fail
  go_loopw [1] (fun i wr => ∃ n : Nat, n ≤ 2 ∧ i = .int .i64 n ∧ Gr w wr) (fun i _ => 2 - (intOf i).toNat)
  case atStart => exact ⟨0, by omega, rfl, Gr.refl _⟩
  case round =>
    obtain ⟨n, hn, rfl, hg⟩ := hrel
    have HG := Lib.hid hg
    clear hg
    by_cases hlt : n < 2
    · go_wp2_with fail
      refine (new_is 2 wr (by decide) (by decide)).mono ?_
      rintro e w1 ⟨d, D, rfl, hdd, hg1, hd1, hf1, hI1⟩
      have HI1 := Lib.hid hI1
      have HU1 : Hid (Up wr.heap.size wr w1 d D) := ⟨hd1, hdd, hf1, hg1, Nat.le_refl _⟩
      clear hd1 hI1 hg1 hf1 hdd
      go_wp2_with fail
      have HU2 := Lib.hid (HU1.out.more (Gr.at_alloc w1 (.cells #[.int .u8 (1 : Nat)] 5)))
      have hc := write_is HI1.out 0 (some ⟨w1.heap.size, 0, none⟩) 1 1 [1] _ _ HU2.out.dsk (awake_one (by omega)) (Nat.le_refl _) (fun _ b o e hf => by injection e with e; injection e with e; subst e; exact absurd (HU1.out.dsk.fp_lt hf) (Nat.lt_irrefl _)) (by omega) (by omega) (by decide)
      rw [HU2.out.d] at hc
      refine hc.mono ?_
      clear hc
      rintro e w2 ⟨rfl, D2, hm, hI2⟩
      have HI2 := Lib.hid hI2
      have HU3 := Lib.hid (HU2.out.mv hm)
      clear hm hI2 HU1 HU2 HI1
      go_wp2_with fail
      have hc := sync_is HI2.out _ HU3.out.dsk (by decide)
      rw [HU3.out.d] at hc
      refine hc.mono ?_
      clear hc
      rintro e w3 ⟨rfl, D3, hm, hI3⟩
      have HI3 := Lib.hid hI3
      have HU4 := Lib.hid (HU3.out.mv hm)
      clear hm hI3 HU3 HI2
      go_wp2_with fail
      have HU5 := Lib.hid (HU4.out.more (Gr.at_alloc w3 (.cells #[.int .u8 (2 : Nat)] 5)))
      have hc := write_is HI3.out 0 (some ⟨w3.heap.size, 0, none⟩) 1 1 [2] _ _ HU5.out.dsk (awake_one (by omega)) (Nat.le_refl _) (fun _ b o e hf => by injection e with e; injection e with e; subst e; exact absurd (HU4.out.dsk.fp_lt hf) (Nat.lt_irrefl _)) (by omega) (by omega) (by decide)
      rw [HU5.out.d] at hc
      refine hc.mono ?_
      clear hc
      rintro e w4 ⟨rfl, D4, hm, hI4⟩
      have HI4 := Lib.hid hI4
      have HU6 := Lib.hid (HU5.out.mv hm)
      clear hm hI4 HU5 HI3 HU4
      go_wp2_with fail
      have hc := crash_is HI4.out _ HU6.out.dsk
      rw [HU6.out.d] at hc
      refine hc.mono ?_
      clear hc
      rintro e w5 ⟨rfl, D5, hm, hI5⟩
      have HI5 := Lib.hid hI5
      have HU7 := Lib.hid (HU6.out.mv hm)
      clear hm hI5 HU6 HI4
      go_wp2_with fail
      have hc := wake_is HI5.out n (-1) 0 _ HU7.out.dsk (by decide)
      rw [HU7.out.d] at hc
      refine hc.mono ?_
      clear hc
      rintro e w6 ⟨rfl, D6, hu6, hm, hI6⟩
      have HI6 := Lib.hid hI6
      have HU8 := Lib.hid (HU7.out.mv hm)
      clear hm hI6 HU7 HI5
      go_wp2_with fail
      have hc := read_is HI6.out 0 _ HU8.out.dsk (by omega)
      rw [HU8.out.d] at hc
      refine hc.mono ?_
      clear hc
      rintro e w7 ⟨b, hb, hx, rfl, hg7⟩
      have hpure' : wkb n (-1) 0 (stb (fun _ => Z 256) ([] ++ [(0, pad [1])])) ([] ++ [(0, pad [2])]) 0 = pad [1 + n] := wake_pure n hlt
      rw [hpure'] at hx
      have x0 : w7.cell? ⟨b, 0, none⟩ = some (.int .u8 ((1 + n : Nat) : Int)) := (cell_of_row _ _ _ _ _ _ hx).trans rfl
      have x1 : w7.cell? ⟨b, 1, none⟩ = some (.int .u8 0) := (cell_of_row _ _ _ _ _ _ hx).trans rfl
      have HU9 := Lib.hid (HU8.out.more hg7)
      clear hx hpure' hg7 hb
      have hw1 : IntKind.u8.wrap ((1 : Int) + n) = ((1 + n : Nat) : Int) := by rw [IntKind.wrap_u8]; omega
      go_wp2_with fail
      go_roundw
      case rel =>
        refine ⟨n + 1, by omega, by go_num, ?_⟩
        exact HG.out.trans (HU9.out.gr.mono HG.out.size)
      case measure => simp [intOf]; omega
    · obtain rfl : n = 2 := by omega
      go_wp2_with fail
      go_ret
      exact ⟨rfl, HG.out⟩
end Go.Proofs.Ytkdphgcbecldbaa
