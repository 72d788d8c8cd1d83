/- The disk: Write. -/
import Derived.Test.YtkdphgcbecldbaaDevI
namespace Go.Proofs.Ytkdphgcbecldbaa
open Go.RowKit
attribute [local go_sem ↓] wp_ld95 wp_st95 wp_bs83
theorem one95 (n : Int) : (#[Value.int .i64 n] ++ Zb).all (·.oneCell') = true := by kernel_rfl
set_option maxRecDepth 100000 in
set_option maxHeartbeats 1000000 in
theorem write_ok (D : Dk) (n : Nat) (A : Option Addr) (len c : Nat) (l : List Nat) (B : Nat) (w : World) (h : Dsk w D) (hb : Bs w B ⟨A, len, c⟩ l) (hB : B ≤ w.heap.size) (hf : 0 < len → ∀ b o, A = some ⟨b, o, none⟩ → ¬ D.fp b) (hd : D.dn = false) (hn : n < D.k) (hl : len ≤ 256) (har : ¬ D.ar = 1) (hws : D.ws.length ≤ 1000000) :
   Calls Try.prog 26 #[.pointer (some ⟨D.d, 0, none⟩), .int .i64 n, .slice A len c] w fun r w' => r = .returned (.int .i64 0) ∧ ∃ v, Mv w D w' { D.turn with wv := v, ws := D.ws ++ [(n, pad l)] } := by
  have HH := Lib.hid h
  have Hd := Lib.hid hd
  have HS := Lib.hid hb
  have HF := Lib.hid hf
  clear h hd hb hf
  obtain ⟨i0, hi0, hz0, hz1, hz2⟩ := info_parts info95
  go_enter Try.func26, Try.ntmps26
  go_wp2_with fail
  refine (up_ok D _ HH.out Hd.out).mono ?_
  rintro e w1 ⟨rfl, rfl⟩
  go_wp2_with fail
  refine (there_ok D n _ HH.out (by omega) (by omega)).mono ?_
  rintro e w1 ⟨rfl, rfl⟩
  go_wp2_with fail
  have hg1 := Gr.at_alloc w (.cells #[.nilIface, .nilIface] 70)
  refine (first_oo _ _ (heap_alloc_new w _)).mono ?_
  rintro e w1 ⟨rfl, rfl⟩
  have HD := Lib.hid (HH.out.gr hg1)
  have HG := Lib.hid hg1
  clear hg1
  generalize w.alloc (.cells #[.nilIface, .nilIface] 70) = W at *
  go_wp2_with fail
  refine (turn_yes D _ HD.out har).mono ?_
  rintro e w1 ⟨rfl, hm⟩
  simp only [De.v]
  have hll : l.length = len := HS.out.1.symm
  have hsrc : ∀ ad, A = some ad → ∀ j u, (bvs l)[j]? = some u → (w1.alloc (.cells (.int .i64 (n : Int) :: bvs (Z 256)).toArray 95)).cell? (ad.add j) = some u := by
    intro ad had j u hu
    obtain ⟨hj, rfl⟩ := bvs_at hu
    obtain ⟨b, o, hA, hbB, hx⟩ := HS.out.at_ (show 0 < len by omega)
    simp only at hA
    have e : ad = ⟨b, o, none⟩ := by rw [had] at hA; injection hA
    subst e
    have hx' := hx j (show j < len by omega)
    have hlt : b < w.heap.size := by omega
    have k1 : w1.cell? ⟨b, o + j, none⟩ = some (.int .u8 ((l.getD j 0 : Nat) : Int)) := by
      rw [hm.1.cell (p := ⟨b, o + j, none⟩) (Nat.lt_of_lt_of_le hlt HG.out.size) (HF.out (by omega) b o had), Below.cell HG.out hlt]
      exact hx'
    rw [Addr.add_lit, Below.cell (Gr.at_alloc w1 _) (World.block_lt_of_cell? w1 _ k1)]
    exact k1
  have hcur := heap_alloc_new w1 (.cells (.int .i64 (n : Int) :: bvs (Z 256)).toArray 95)
  have hgr := Gr.at_alloc w1 (.cells (.int .i64 (n : Int) :: bvs (Z 256)).toArray 95)
  have hX0 : Try.zeroCells95.setIfInBounds 0 (.int .i64 (n : Int)) = (.int .i64 (n : Int) :: bvs (Z 256)).toArray := by
    rw [z95, ← Zb_list]
    apply Array.ext'
    rw [Array.toList_setIfInBounds, Array.toList_append, Array.toList_append]
    rfl
  have hst' : ∀ W : World, stv 95 (.pointer (some ⟨W.heap.size, 0, none⟩)) (.agg (Try.zeroCells95.setIfInBounds 0 (.int .i64 (n : Int)))) (W.alloc (.cells Try.zeroCells95 95)) = .ok () (W.alloc (.cells (.int .i64 (n : Int) :: bvs (Z 256)).toArray 95)) := fun W => by
    rw [hX0]
    exact stv95_new W _ (by rw [List.size_toArray, List.length_cons, bvs_len, Z_len]) (by rw [← Zb_list]; exact one95 n)
  have HX0 := Lib.hid hX0
  clear hX0
  have HM := Lib.hid hm
  have HSRC := Lib.hid hsrc
  have HL := Lib.hid hll
  have HCUR := Lib.hid hcur
  have HGR := Lib.hid hgr
  clear hm hsrc hll hcur hgr
  go_wp2_with (refine wpList_copy_splice (o := ⟨some 40, _, _, _, _, _⟩) rfl (.tmp 38) (.tmp 39) 24 24 rfl 5 Try.underlying24 size5 (some ⟨w1.heap.size, 1, none⟩) A 256 256 len c rfl rfl w1.heap.size 1 (.int .i64 (n : Int) :: bvs (Z 256)) 95 HCUR.out (bvs l) ?cn ?cp ?cf (bvs_one l) w1.heap.size w1 HGR.out (Nat.le_refl _) ?_)
  case cn => rw [bvs_len, HL.out]; exact (Nat.min_eq_left hl).symm
  case cp =>
    intro hpos
    rw [bvs_len, HL.out] at hpos
    obtain ⟨b, o, hA, _⟩ := HS.out.at_ hpos
    exact ⟨_, hA, HSRC.out _ hA⟩
  case cf => rw [bvs_len, HL.out, List.length_cons, bvs_len, Z_len]; omega
  intro w2 hw2 hg2
  have hw2' : w2.heap[w1.heap.size]? = some (.cells (lc (n, pad l)).toArray 95 (0, 0)) := by
    have := hw2.out
    rw [splice_pad] at this
    exact this
  have hlt2 : w1.heap.size < w2.heap.size := Blk.lt (t := 95) hw2'
  have HX := Lib.hid hw2'
  have HG2 := Lib.hid hg2
  clear hw2 hg2 hw2' HCUR HGR HSRC hst'
  generalize hge : w1.heap.size = g at *
  have HGE := Lib.hid hge
  clear hge
  go_wp2_with fail
  have hD2 := HM.out.2.1.gr (show Gr w1 w2 by unfold Gr; rw [HGE.out]; exact HG2.out)
  have hc6 : w2.cell? ⟨D.d, 6, none⟩ = some D.wv := hD2.c 6 rfl
  have hf6 : w2.frozen? ⟨D.d, 6, none⟩ = false := hD2.f 6 (by omega)
  have hr : w2.rangeAt g 0 (lc (n, pad l)) := fun j v hv => by
    rw [cell_of_row w2 g _ _ _ _ HX.out, Nat.zero_add, ← hv]
    exact List.getElem?_toArray ..
  have hown : w2.ownsRow D.base 95 257 D.wv D.ws.length (lrow D.ws) := hD2.own
  have hlc : (lc (n, pad l)).length = 257 := by unfold lc; rw [List.length_cons, bvs_len, pad_len (by rw [HL.out]; exact hl)]
  have hbs : D.base ≤ w2.heap.size := hD2.o7
  have hdl : D.d < w2.heap.size := Nat.lt_of_lt_of_le hD2.o4 hbs
  have hone : ∀ u ∈ lc (n, pad l), u.oneCell' = true := by
    intro u hu
    rcases List.mem_cons.1 hu with rfl | h
    · rfl
    · exact bvs_one _ u h
  have hdn : some D.d ≠ D.wv.ownBlock := fun e => hD2.not_own (b := D.d) hD2.o4 e.symm
  have HOWN := Lib.hid hown
  have HLC := Lib.hid hlc
  have HR := Lib.hid hr
  have HONE := Lib.hid hone
  have HDN := Lib.hid hdn
  have HD2 := Lib.hid hD2
  have HMA : Hid (Mv w D w2 D.turn) := (Mv.gr HH.out HG.out).trans (HM.out.trans (Mv.gr HM.out.2.1 (show Gr w1 w2 by unfold Gr; rw [HGE.out]; exact HG2.out)))
  have HSM : Hid (Small l) := HS.out.2.1
  clear hown hlc hD2 hr hone hdn
  have hld := ldv95 ((World.rangeAt_drew _ _ _ _).2 HR.out) HLC.out
  have hbs2 := fun W => bsv83 W (lc (n, pad l)).toArray (by rw [List.size_toArray]; exact HLC.out)
  have HBS : Hid (D.base ≤ w2.heap.size) := hbs
  have hk6 : ∀ o, (w2.alloc o).cell? ⟨D.d, 6, none⟩ = some D.wv := fun o => by rw [World.cell?_alloc_lt _ _ _ hdl]; exact hc6
  have HWS : Hid (D.ws.length ≤ 1000000) := hws
  have HDL := Lib.hid hdl
  generalize hXX : (lc (n, pad l)).toArray = X at *
  have HXX := Lib.hid hXX
  clear hXX hbs hws hdl
  have hkf : ∀ o, (w2.alloc o).frozen? ⟨D.d, 6, none⟩ = false := fun o => by rw [World.frozen?_alloc_past _ _ _ HDL.out]; exact hf6
  go_region_law ((refine step_append_lies _ (by rfl) (.tmp 45) (.tmp 47) 83 (by rfl) D.base 95 i0 _ 257 264 Try.underlying83 hi0 hz0 hz1 hz2 (by kernel_rfl) (by omega) D.wv D.ws.length (lrow D.ws) (by rfl) ((HOWN.out.alloc _).drew) (⟨w2.heap.size, 0, none⟩ : Addr) 1 1 (lc (n, pad l)) (by rfl) (by rw [HLC.out]) (World.news_of_block (cs := (lc (n, pad l)).toArray) (t := 95) (fr := (0, 0)) (by rw [HXX.out]; exact heap_alloc_new w2 _)) HONE.out (by omega) (by have := HWS.out; unfold maxLen; omega) (by have := HWS.out; omega) (by have := HBS.out; simp; omega) (w2.heap.size + 1) (by simp) ?_; intro gg cap w3 hown1 hgrow hat hlt; have h36 := (hgrow.cell_far ⟨D.d, 6, none⟩ (by have := HDL.out; simp; omega) HDN.out).trans (hk6 _); have f36 := (hgrow.frozen_far ⟨D.d, 6, none⟩ (by have := HDL.out; simp; omega) HDN.out).trans (hkf _); have HOWN1 := Lib.hid hown1; have HGROW := Lib.hid hgrow; have HAT := Lib.hid hat; clear hown1 hgrow hat hlt))
  all_goals (
    have HMV : Hid (Mv w2 D.turn (w3.setCell ⟨D.d, 6, none⟩ (.slice (some ⟨gg, 0, none⟩) (D.ws.length + 1) cap)) { D.turn with wv := .slice (some ⟨gg, 0, none⟩) (D.ws.length + 1) cap, ws := D.ws ++ [(n, pad l)] }) := Lib.hid (Mv.app HD2.out (by show n < D.k; exact hn) (pad_len (by rw [HL.out]; exact hl)) (small_pad HSM.out) HOWN1.out HGROW.out HAT.out)
    generalize w3.setCell ⟨D.d, 6, none⟩ (.slice (some ⟨gg, 0, none⟩) (D.ws.length + 1) cap) = w4 at *
    go_wp2_with fail
    refine (told_ok _).mono ?_
    rintro e w5 ⟨rfl, hg5⟩
    go_wp2_with fail
    go_ret
    refine ⟨rfl, _, ((HMA.out.trans HMV.out).trans (Mv.gr HMV.out.2.1 hg5))⟩)
end Go.Proofs.Ytkdphgcbecldbaa
