/- The laws of layer 3: pieced (34). -/
import Derived.Test.YtkdphgcbecldbaaDevHH
import Derived.Deep.QuietTactic
import Derived.BigQuiet
namespace Go.Proofs.Ytkdphgcbecldbaa
open Go.RowKit
def sec (l : List Nat) (s : Nat) : List Nat := (l.drop (32 * s)).take 32
def hit (b : List Nat) (n blocks : Int) (s : Nat) (x : Deed) : Bool := decide (x.b.length ≤ 256) && (decide (pick x.n blocks = n) && decide (sec b s = sec (pad x.b) s))
def okS (b was : List Nat) (xs : List Deed) (n blocks : Int) (s k : Nat) : Bool := decide (sec b s = sec was s) || (xs.take k).any (hit b n blocks s)
theorem okS_zero (b was : List Nat) (xs : List Deed) (n blocks : Int) (s : Nat) : okS b was xs n blocks s 0 = decide (sec b s = sec was s) := by simp [okS]
theorem okS_succ (b was : List Nat) (xs : List Deed) (n blocks : Int) (s k : Nat) (h : k < xs.length) : okS b was xs n blocks s (k + 1) = (okS b was xs n blocks s k || hit b n blocks s xs[k]) := by
  unfold okS
  rw [List.take_succ_eq_append_getElem h, List.any_append, Bool.or_assoc]
  simp
theorem sec_len {l : List Nat} (h : l.length = 256) {s : Nat} (hs : s < 8) : (sec l s).length = 32 := by
  unfold sec
  rw [List.length_take, List.length_drop]
  omega
theorem bs_sec {w : World} {g : Nat} {t : TypeId} {l : List Nat} (h : w.heap[g]? = some (.cells (bvs l).toArray t (0, 0))) (hs : Small l) (hl : l.length = 256) {s : Nat} (h8 : s < 8) :
    Bs w w.heap.size ⟨some ⟨g, 32 * s, none⟩, 32, 256 - 32 * s⟩ (sec l s) :=
  ⟨(sec_len hl h8).symm, fun x hx => hs x (List.mem_of_mem_drop (List.mem_of_mem_take hx)), by simp only; omega, by simp only; omega, fun _ => ⟨g, 32 * s, rfl, (Array.getElem?_eq_some_iff.1 h).1, fun i hi => by
    simp only at hi
    rw [cell_of_row _ _ _ _ _ _ h, List.getElem?_toArray]
    unfold bvs bv sec
    rw [List.getElem?_map, List.getD_eq_getElem?_getD, List.getElem?_take, if_pos hi, List.getElem?_drop, List.getElem?_eq_getElem (by omega)]
    rfl⟩⟩
theorem same_sec {w : World} {g1 g2 : Nat} {t1 t2 : TypeId} {l1 l2 : List Nat} (h1 : w.heap[g1]? = some (.cells (bvs l1).toArray t1 (0, 0))) (h2 : w.heap[g2]? = some (.cells (bvs l2).toArray t2 (0, 0))) (s1 : Small l1) (s2 : Small l2) (e1 : l1.length = 256) (e2 : l2.length = 256) {s : Nat} (h8 : s < 8) :
    Calls Try.prog 22 #[.slice (some ⟨g1, 32 * s, none⟩) 32 (256 - 32 * s), .slice (some ⟨g2, 32 * s, none⟩) 32 (256 - 32 * s)] w fun e w' => e = .returned (.bool (decide (sec l1 s = sec l2 s))) ∧ ∃ m, w' = w.drewN m :=
  same_any _ _ 32 _ _ _ _ _ w (bs_sec h1 s1 e1 h8) (bs_sec h2 s2 e2 h8)
set_option maxRecDepth 100000 in
set_option maxHeartbeats 4000000 in
theorem pieced_ok (g1 g2 : Nat) (t1 t2 : TypeId) (b was : List Nat) (A : Option Addr) (len c : Nat) (xs : List Deed) (n blocks : Int) (w : World)
    (h1 : w.heap[g1]? = some (.cells (bvs b).toArray t1 (0, 0))) (h2 : w.heap[g2]? = some (.cells (bvs was).toArray t2 (0, 0))) (s1 : Small b) (s2 : Small was) (e1 : b.length = 256) (e2 : was.length = 256)
    (hD : Ds w w.heap.size A len xs) (hbl : i64 blocks) (hall : ∀ s, s < 8 → okS b was xs n blocks s xs.length = true) :
    Calls Try.prog 34 #[.slice (some ⟨g1, 0, none⟩) 256 256, .slice (some ⟨g2, 0, none⟩) 256 256, .slice A len c, .int .i64 n, .int .i64 blocks] w fun r w' => r = .returned (.bool true) ∧ Gr w w' := by
  have HX1 := Lib.hid h1
  have HX2 := Lib.hid h2
  have HS1 := Lib.hid s1
  have HS2 := Lib.hid s2
  have HE1 := Lib.hid e1
  have HE2 := Lib.hid e2
  have HD := Lib.hid hD
  have HN := Lib.hid hD.len
  have hmx := hD.max
  have HBL := Lib.hid hbl
  have HALL := Lib.hid hall
  clear h1 h2 s1 s2 e1 e2 hD hbl hall
  go_enter Try.func34, Try.ntmps34
  go_wp2_with fail
  go_loopw [11, 12, 13, 14] (fun s _ _ _ wr => ∃ k : Nat, k ≤ 8 ∧ s = .int .i64 k ∧ Hid (Gr w wr)) (fun s _ _ _ _ => 8 - (intOf s).toNat)
  case atStart => exact ⟨0, by omega, rfl, Gr.refl _⟩
  case round =>
    obtain ⟨s, hs, rfl, HG⟩ := hrel
    by_cases h8 : s < 8
    · have hm1 : IntKind.i64.wrap (32 * (s : Int)) = ((32 * s : Nat) : Int) := by rw [IntKind.wrap_i64]; omega
      have hm2 : IntKind.i64.wrap (((32 * s : Nat) : Int) + 32) = ((32 * s + 32 : Nat) : Int) := by rw [IntKind.wrap_i64]; omega
      have b1 : (0 : Int) ≤ ((32 * s : Nat) : Int) := by omega
      have b2 : ((32 * s : Nat) : Int) ≤ ((32 * s + 32 : Nat) : Int) := by omega
      have b3 : ((32 * s + 32 : Nat) : Int) ≤ 256 := by omega
      have HSS : Hid (∀ m, Calls Try.prog 22 #[.slice (some ⟨g1, 32 * s, none⟩) 32 (256 - 32 * s), .slice (some ⟨g2, 32 * s, none⟩) 32 (256 - 32 * s)] (wr.drewN m) fun e w' => e = .returned (.bool (decide (sec b s = sec was s))) ∧ ∃ m', w' = (wr.drewN m).drewN m') :=
        fun m => same_sec (w := wr.drewN m) (gr_cells HX1.out (Gr.step (gr_drewN m) HG.out)) (gr_cells HX2.out (Gr.step (gr_drewN m) HG.out)) HS1.out HS2.out HE1.out HE2.out h8
      go_wp2_with fail
      go_quiet ((go_at_call 22; exact Calls.quiet_of (HSS.out _)))
      go_wp2_with fail
      have HGQ : Hid (Gr w (wr.drewN nq)) := Gr.step (gr_drewN nq) HG.out
      clear hm1 hm2 b1 b2 b3 HSS
      generalize wr.drewN nq = wq at *
      rw [show 32 * s + 32 - 32 * s = 32 by omega, decide_eq_true (show (s : Int) < 8 by omega)]
      go_loopw [12, 13, 14] (fun ok i _ wz => ∃ k : Nat, k ≤ len ∧ i = .int .i64 k ∧ ok = .bool (okS b was xs n blocks s k) ∧ Hid (Gr w wz)) (fun _ i _ _ => len - (intOf i).toNat)
      case atStart => exact ⟨0, by omega, rfl, by rw [okS_zero], HGQ⟩
      case round =>
        obtain ⟨k, hk, rfl, rfl, HGZ⟩ := hrel
        by_cases hlt : k < len
        · have hkx : k < xs.length := by have := HN.out; omega
          have hDz := HD.out.below HGZ.out (Nat.le_refl _)
          obtain ⟨bd, od, rfl, hbB, c0, c1, c2, c3, c4, c5⟩ := hDz.cell (i := k) hkx
          have hok := hDz.ok xs[k] (List.getElem_mem _)
          have hsc := okS_succ b was xs n blocks s k hkx
          have hbs := hok.bs.1
          have hbl := hok.len
          have HOK := Lib.hid hok
          have HSC := Lib.hid hsc
          clear hDz hok hsc
          generalize xs[k] = e at *
          clear hkx
          unfold Sl.v at c2
          have b1 : (0 : Int) ≤ (k : Int) := by omega
          have b2 : (k : Int) < (len : Int) := by omega
          have HBE := Lib.hid hbs
          clear hbs
          go_wp2_with fail
          refine (padded_ok e.s.a e.s.n e.s.c e.b w.heap.size wr HOK.out.bs (by rw [HBE.out]; exact hbl)).mono ?_
          rintro r wp ⟨hgp, hcase⟩
          have HGP := Lib.hid (Gr.step hgp HGZ.out)
          have hc1 : wp.cell? ⟨bd, od + k * 6 + 1, none⟩ = some (.int .i64 e.n) := (hgp.cell (p := ⟨bd, od + k * 6 + 1, none⟩) (World.block_lt_of_cell? _ _ c1)).trans c1
          clear hgp c0 c1 c2 c3 c4 c5
          generalize okS b was xs n blocks s k = okk at *
          have hm1 : IntKind.i64.wrap (32 * (s : Int)) = ((32 * s : Nat) : Int) := by rw [IntKind.wrap_i64]; omega
          have hm2 : IntKind.i64.wrap (((32 * s : Nat) : Int) + 32) = ((32 * s + 32 : Nat) : Int) := by rw [IntKind.wrap_i64]; omega
          have b3 : (0 : Int) ≤ ((32 * s : Nat) : Int) := by omega
          have b4 : ((32 * s : Nat) : Int) ≤ ((32 * s + 32 : Nat) : Int) := by omega
          have b5 : ((32 * s + 32 : Nat) : Int) ≤ 256 := by omega
          rcases hcase with ⟨hle, bp, hbp, rfl, hxp⟩ | ⟨hgt, rfl⟩
          · cases okk with
            | true =>
              have HNX : Hid (okS b was xs n blocks s (k + 1) = true) := by show _ = _; rw [HSC.out]; rfl
              go_wp2_with fail
              go_quiet (fail)
              go_wp2_with fail
              go_roundw
              case rel => exact ⟨k + 1, by omega, by go_num, by rw [HNX.out], Gr.step (gr_drewN _) HGP.out⟩
              case measure => simp [intOf]; omega
            | false =>
              have hel : e.b.length ≤ 256 := by have := HBE.out; omega
              by_cases hp : pick e.n blocks = n
              · have hpb : (pick e.n blocks == n) = true := by simpa using hp
                have HNX : Hid (okS b was xs n blocks s (k + 1) = decide (sec b s = sec (pad e.b) s)) := by
                  show _ = _
                  rw [HSC.out]
                  unfold hit
                  rw [decide_eq_true hel, decide_eq_true hp]
                  simp
                have HSB : Hid (∀ m, Calls Try.prog 22 #[.slice (some ⟨g1, 32 * s, none⟩) 32 (256 - 32 * s), .slice (some ⟨bp, 32 * s, none⟩) 32 (256 - 32 * s)] (wp.drewN m) fun e' w' => e' = .returned (.bool (decide (sec b s = sec (pad e.b) s))) ∧ ∃ m', w' = (wp.drewN m).drewN m') :=
                  fun m => same_sec (w := wp.drewN m) (gr_cells HX1.out (Gr.step (gr_drewN m) HGP.out)) (gr_cells hxp (gr_drewN m)) HS1.out (small_pad HOK.out.bs.2.1) HE1.out (pad_len hel) h8
                have HPK : Hid (∀ m, Calls Try.prog 21 #[.int .i64 e.n, .int .i64 blocks] (wp.drewN m) fun e' w' => e' = .returned (.int .i64 (pick e.n blocks)) ∧ wp.drewN m = w') := fun m => pick_any e.n blocks _ HBL.out.2
                clear hxp hp hel
                generalize pick e.n blocks = pk at *
                go_wp2_with fail
                go_quiet (first
                  | (go_at_call 21; exact Calls.quiet_of_same ((HPK.out _).mono fun _ _ h => ⟨h.1, h.2.symm⟩))
                  | (go_at_call 22; exact Calls.quiet_of (HSB.out _)))
                go_wp2_with fail
                go_roundw
                case rel => exact ⟨k + 1, by omega, by go_num, by rw [HNX.out], Gr.step (gr_drewN _) HGP.out⟩
                case measure => simp [intOf]; omega
              · have hpb : (pick e.n blocks == n) = false := by simpa using hp
                have HNX : Hid (okS b was xs n blocks s (k + 1) = false) := by
                  show _ = _
                  rw [HSC.out]
                  unfold hit
                  rw [decide_eq_false hp]
                  simp
                have HPK : Hid (∀ m, Calls Try.prog 21 #[.int .i64 e.n, .int .i64 blocks] (wp.drewN m) fun e' w' => e' = .returned (.int .i64 (pick e.n blocks)) ∧ wp.drewN m = w') := fun m => pick_any e.n blocks _ HBL.out.2
                clear hxp hp hel
                generalize pick e.n blocks = pk at *
                go_wp2_with fail
                go_quiet ((go_at_call 21; exact Calls.quiet_of_same ((HPK.out _).mono fun _ _ h => ⟨h.1, h.2.symm⟩)))
                go_wp2_with fail
                go_roundw
                case rel => exact ⟨k + 1, by omega, by go_num, by rw [HNX.out], Gr.step (gr_drewN _) HGP.out⟩
                case measure => simp [intOf]; omega
          · have HNX : Hid (okS b was xs n blocks s (k + 1) = okk) := by
              show _ = _
              rw [HSC.out]
              unfold hit
              rw [decide_eq_false (by have := HBE.out; omega)]
              simp
            cases okk with
            | true =>
              go_wp2_with fail
              go_quiet (fail)
              go_wp2_with fail
              go_roundw
              case rel => exact ⟨k + 1, by omega, by go_num, by rw [HNX.out], Gr.step (gr_drewN _) HGP.out⟩
              case measure => simp [intOf]; omega
            | false =>
              go_wp2_with fail
              go_quiet (fail)
              go_wp2_with fail
              go_roundw
              case rel => exact ⟨k + 1, by omega, by go_num, by rw [HNX.out], Gr.step (gr_drewN _) HGP.out⟩
              case measure => simp [intOf]; omega
        · obtain rfl : k = len := by omega
          have hfin : okS b was xs n blocks s k = true := by rw [HN.out]; exact HALL.out s h8
          rw [hfin]
          have HFIN := Lib.hid hfin
          clear hfin
          go_wp2_with fail
          go_roundw
          case rel => exact ⟨s + 1, by omega, by go_num, HGZ.out⟩
          case measure => simp [intOf]; omega
    · obtain rfl : s = 8 := by omega
      go_wp2_with fail
      go_ret
      exact ⟨rfl, HG.out⟩
end Go.Proofs.Ytkdphgcbecldbaa
