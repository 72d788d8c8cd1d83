/- MixRuns: rows that differ within a run of 32 bits have unlike sums; any bytes, any place, any turn. -/
import Derived.Test.YtkdphgcbecldbaaMixF
import Derived.Test.YtkdphgcbecldbaaKitA
import Derived.StillTailTactics
namespace Go.Proofs.Ytkdphgcbecldbaa
open Go.RowKit MixM

theorem info5' : (Try.prog.info? 5).map (fun i => (i.zero, i.size, i.bytes)) = some (some (.int .u8 0), 1, 1) := by kernel_rfl
theorem bit_walk (t k : Nat) (ht : t < 4294967296) : bits .and .u32 ((t : Int) / 2 ^ k) 1 = ((t / 2 ^ k % 2 : Nat) : Int) := by
  have e : (t : Int) / 2 ^ k = ((t / 2 ^ k : Nat) : Int) := by simp
  rw [e, and1 _ (Nat.lt_of_le_of_lt (Nat.div_le_self _ _) ht)]
theorem Gr.drew' {a b : World} (k : Gr a b) : Gr a b.drew := Below.drew k
theorem bt_lt (bt R : Nat) (hb : bt < 2) (hR : R < 8) : bt * 2 ^ R < 2 ^ 8 := by
  have h : 2 ^ R ≤ 2 ^ 7 := Nat.pow_le_pow_right (by decide) (by omega)
  rcases (by omega : bt = 0 ∨ bt = 1) with e | e
  · subst e; omega
  · subst e; omega
theorem byte_walk (x bt R : Nat) (hx : x < 256) (hb : bt < 2) (hR : R < 8) : bits .xor .u8 (x : Int) (IntKind.u8.wrap ((bt : Int) * 2 ^ R)) = ((x ^^^ bt * 2 ^ R : Nat) : Int) := by
  have h := bt_lt bt R hb hR
  have e : (bt : Int) * 2 ^ R = ((bt * 2 ^ R : Nat) : Int) := by simp
  rw [e, IntWalk.u8_in _ (by omega), u8_xor_nat _ _ hx (by omega)]
theorem run_step (t k f : Nat) : t % 2 ^ k * 2 ^ f ^^^ t / 2 ^ k % 2 * 2 ^ ((f + k) % 8) * 256 ^ ((f + k) / 8) = t % 2 ^ (k + 1) * 2 ^ f := by
  have e1 : t / 2 ^ k % 2 * 2 ^ ((f + k) % 8) * 256 ^ ((f + k) / 8) = t / 2 ^ k % 2 * 2 ^ k * 2 ^ f := by
    rw [show (256 : Nat) = 2 ^ 8 from rfl, ← Nat.pow_mul, Nat.mul_assoc, ← Nat.pow_add, Nat.mul_assoc, ← Nat.pow_add]
    congr 2
    omega
  have e2 : t % 2 ^ (k + 1) = t / 2 ^ k % 2 * 2 ^ k ^^^ t % 2 ^ k := by
    conv => lhs; rw [split (t % 2 ^ (k + 1)) k]
    congr 1
    · congr 1
      rw [Nat.pow_succ, Nat.mod_mul_right_div_self]
    · rw [Nat.mod_mod_of_dvd]
      exact ⟨2, by rw [Nat.pow_succ]⟩
  rw [e1, e2]
  have := Nat.shiftLeft_xor_distrib (a := t / 2 ^ k % 2 * 2 ^ k) (b := t % 2 ^ k) (i := f)
  simp only [Nat.shiftLeft_eq] at this
  rw [this, Nat.xor_comm]
set_option maxRecDepth 100000 in
set_option maxHeartbeats 1000000 in
theorem mixruns_any (A : Option Addr) (n c : Nat) (l : List Nat) (m : Int) (t : Nat) (w : World) (h : Bs w w.heap.size ⟨A, n, c⟩ l) (ht : t < 4294967296) :
    Calls Try.prog 5 #[.slice A n c, .int .i64 m, .int .u32 t] w fun e w' => e = .returned (.bool true) ∧ Gr w w' := by
  obtain ⟨i5, hi, hz, hs, hby⟩ := info_parts info5'
  have hnc : n ≤ c := h.2.2.1
  have hcm : c ≤ 9223372036854775807 := h.2.2.2.1
  have HS1 : Hid (∀ W, Gr w W → Bs W w.heap.size ⟨A, n, c⟩ l) := fun W hW => bs_gr h hW (Nat.le_refl _)
  clear h
  by_cases hbig : 20000 < n
  · go_enter Try.func5, Try.ntmps5
    go_wp2_with fail
    refine (awake1 _).mono ?_
    rintro e w1 ⟨rfl, hg1⟩
    go_wp2_with fail
    go_ret
    exact ⟨rfl, hg1⟩
  · by_cases hn0 : n = 0
    · subst hn0
      go_enter Try.func5, Try.ntmps5
      go_wp2_with fail
      refine (awake1 _).mono ?_
      rintro e w1 ⟨rfl, hg1⟩
      go_wp2_with fail
      go_ret
      exact ⟨rfl, hg1⟩
    · have hne : ((n : Int) == 0) = false := by simp; omega
      go_enter Try.func5, Try.ntmps5
      go_wp2_with fail
      refine (awake1 _).mono ?_
      rintro e w1 ⟨rfl, hg1⟩
      obtain ⟨b, o, hA, hb, hx⟩ := (HS1.out w1 hg1).at_ (show 0 < n by omega)
      simp only at hA hx
      subst hA
      have hcells : Hid (∀ j u, (bvs l)[j]? = some u → (w1.alloc (.cells #[] 5)).cell? ((⟨b, o, none⟩ : Addr).add j) = some u) := bs_cells ((HS1.out w1 hg1).below (Gr.at_alloc w1 _) (gr_size hg1)) _ rfl
      have hlen : Hid ((bvs l).length = n * 1) := by
        show _ = _
        rw [bvs, List.length_map, Nat.mul_one]; exact (HS1.out w1 hg1).1.symm
      have hown0 : (w1.alloc (.cells #[] 5)).ownsRow w1.heap.size 5 1 (.slice (some ⟨w1.heap.size, 0, none⟩) 0 0) 0 [] := World.ownsRow_made w1 #[] 0 (Nat.le_refl _) (Nat.zero_le _) rfl
      clear hx
      go_wp2_with (at_builtin; refine wpList_append_own _ rfl (.tmp 21) (.tmp 22) 24 rfl w1.heap.size 5 i5 (.int .u8 0) 1 1 Try.underlying24 hi hz hs hby rfl (by decide) (.slice (some ⟨w1.heap.size, 0, none⟩) 0 0) 0 [] rfl hown0 ⟨b, o, none⟩ n c (bvs l) rfl hlen.out hcells.out (bvs_one l) ?d3 ?d4 ?d5 ?_)
      case d3 => unfold maxLen; omega
      case d4 => omega
      case d5 => rw [World.size_alloc]; omega
      intro v2 w2 hown2 hgr2 hv2
      have hg2 : Gr w w2 := by
        have h1 := hg1.alloc (.cells #[] 5)
        refine Below.grown h1 hgr2 (gr_size h1) (fun k hk => ?_)
        have : w1.heap.size = k := by simpa [Value.ownBlock] using hk
        rw [← this]; exact gr_size hg1
      obtain ⟨g, cap, hv, hgB, hncap, hcm2, hgw⟩ : ∃ g cap, v2 = .slice (some ⟨g, 0, none⟩) n cap ∧ w1.heap.size ≤ g ∧ n ≤ cap ∧ cap ≤ 9223372036854775807 ∧ g < w2.heap.size := by
        rcases hown2.2 with ⟨_, h0⟩ | ⟨g, cap, cur, hv, hgB, hh, h1, h2, _⟩
        · exact absurd h0 hn0
        · refine ⟨g, cap, hv, hgB, h1, by unfold maxLen at h2; exact h2, ?_⟩
          rcases Nat.lt_or_ge g w2.heap.size with hlt | hge
          · exact hlt
          · rw [Array.getElem?_eq_none hge] at hh; cases hh
      subst hv
      have hgg : w.heap.size ≤ g := Nat.le_trans (gr_size hg1) hgB
      clear hown0 hcells hlen hgr2 hv2 hgB
      have hp1 : 0 ≤ pick m (8 * (n : Int)) ∧ pick m (8 * (n : Int)) < 8 * (n : Int) := by
        unfold pick
        rw [if_neg (by omega)]
        exact ⟨Int.emod_nonneg _ (by omega), Int.emod_lt_of_pos _ (by omega)⟩
      go_wp2_with fail
      refine (pick_any m (8 * (n : Int)) _ (by omega)).mono ?_
      rintro e w' ⟨rfl, rfl⟩
      obtain ⟨f, hf⟩ := Int.eq_ofNat_of_zero_le hp1.1
      rw [hf] at hp1 ⊢
      have hfn : f < 8 * n := by omega
      clear hf hp1
      go_wp2_with fail
      go_loopw [9] (fun i wr => ∃ (k : Nat) (cl : List Nat), k ≤ 32 ∧ f + k ≤ 8 * n ∧ i = .int .i64 k ∧ Hid (cl.length = n) ∧ Small cl ∧ Hid (num cl = num l ^^^ t % 2 ^ k * 2 ^ f) ∧ wr.ownsRow w1.heap.size 5 1 (.slice (some ⟨g, 0, none⟩) n cap) n (bvs cl) ∧ Gr w wr ∧ g < wr.heap.size) (fun i _ => 32 - (intOf i).toNat)
      case atStart => exact ⟨0, l, by omega, by omega, rfl, (HS1.out w1 hg1).1.symm, (HS1.out w1 hg1).2.1, by show _ = _; simp [Nat.mod_one], hown2, hg2, hgw⟩
      case round =>
        obtain ⟨k, cl, hk, hfk, rfl, HCL, hsm, HN, hown, hg, hgr⟩ := hrel
        by_cases hk32 : k < 32 ∧ f + k < 8 * n
        · obtain ⟨hk1, hk2⟩ := hk32
          have hj : (f + k) / 8 < n := by omega
          have hjc : (f + k) / 8 < cl.length := by rw [HCL.out]; exact hj
          have hcell := hown.cellAt ((f + k) / 8) (by omega)
          have hfro := hown.frozenAt ((f + k) / 8)
          have hx : (bvs cl)[(f + k) / 8]? = some (.int .u8 ((cl[(f + k) / 8] : Nat) : Int)) := by simp [bvs, hjc]
          rw [hx] at hcell
          have hx8 : cl[(f + k) / 8] < 256 := hsm _ (List.getElem_mem hjc)
          generalize hxe : cl[(f + k) / 8] = x at hcell hx8
          have HX := Lib.hid hxe
          have HOWN := Lib.hid hown
          have e1 : IntKind.i64.wrap ((f : Int) + (k : Int)) = (f : Int) + (k : Int) := IntWalk.i64_in _ (by omega)
          have e2 : IntKind.i64.wrap (((f : Int) + (k : Int)).tdiv 8) = (((f + k) / 8 : Nat) : Int) := by
            rw [Int.tdiv_eq_ediv_of_nonneg (by omega), IntWalk.i64_in _ (by omega)]; omega
          have e3 : ((f : Int) + (k : Int)).tmod 8 = (((f + k) % 8 : Nat) : Int) := by
            rw [Int.tmod_eq_emod_of_nonneg (by omega)]; omega
          have e4 := bit_walk t k ht
          have hb1 : t / 2 ^ k % 2 < 2 := Nat.mod_lt _ (by decide)
          have hR8 : (f + k) % 8 < 8 := Nat.mod_lt _ (by decide)
          generalize hJ : (f + k) / 8 = J at *
          generalize hR : (f + k) % 8 = R at *
          generalize hbt : t / 2 ^ k % 2 = bt at *
          have e5 : IntKind.u8.wrap (bt : Int) = (bt : Int) := IntWalk.u8_in _ (by omega)
          have HJ := Lib.hid hJ
          have HR := Lib.hid hR
          have HBT := Lib.hid hbt
          clear hx hxe hown hJ hR hbt
          go_wp2_with fail
          go_still_tail 24, (by kernel_rfl)
          change wpList _ _ _ _ _ wr.drew
          have hown' : wr.drew.ownsRow w1.heap.size 5 1 (.slice (some ⟨g, 0, none⟩) n cap) n (bvs cl) := HOWN.out
          have hcell' : wr.drew.cell? ⟨g, J, none⟩ = some (.int .u8 ((x : Nat) : Int)) := hcell
          have hfro' : wr.drew.frozen? ⟨g, J, none⟩ = false := hfro
          have hg' : Gr w wr.drew := hg.drew'
          have hgr' : g < wr.drew.heap.size := hgr
          have HX2 := byte_walk x bt R hx8 hb1 hR8
          have hX8 : x ^^^ bt * 2 ^ R < 256 := Nat.xor_lt_two_pow (n := 8) hx8 (bt_lt bt R hb1 hR8)
          have HXE : Hid (∀ v : Nat, v = x ^^^ bt * 2 ^ R → num (cl.set J v) = num l ^^^ t % 2 ^ (k + 1) * 2 ^ f) := by
            intro v hv
            subst hv
            have e := num_set cl J (bt * 2 ^ R) hjc
            rw [HX.out] at e
            rw [e, HN.out, Nat.xor_assoc]
            congr 1
            rw [← HBT.out, ← HR.out, ← HJ.out]
            exact run_step t k f
          generalize x ^^^ bt * 2 ^ R = X at *
          generalize wr.drew = wd at *
          have HOWN' := Lib.hid hown'
          rw [HX2]
          clear hcell hfro HOWN hown' HX2
          go_wp2_with fail
          go_roundw
          case rel =>
            have hst := HOWN'.out.stored J (.int .u8 ((X : Nat) : Int))
            refine ⟨k + 1, cl.set J X, by omega, by omega, by go_num, by show _ = _; rw [List.length_set, HCL.out], ?_, HXE.out X rfl, ?_, ?_, ?_⟩
            · intro y hy
              rcases List.mem_or_eq_of_mem_set hy with h | h
              · exact hsm y h
              · rw [h]; exact hX8
            · have e : bvs (cl.set J X) = (bvs cl).set J (.int .u8 ((X : Nat) : Int)) := by simp [bvs, List.map_set]
              rw [e]; exact hst.1
            · exact Below.setCell hg' hgg _
            · have := hst.2.size; omega
          case measure => simp [intOf]; omega
        · have hend : Hid (k = 32 ∨ f + k = 8 * n) := by
            show _ ∨ _
            omega
          have hl : l.length = n := (HS1.out w1 hg1).1.symm
          have hsl : Small l := (HS1.out w1 hg1).2.1
          have hD : t % 2 ^ k = t % 2 ^ (8 * n - f) := by
            rcases hend.out with e | e
            · subst e
              rw [Nat.mod_eq_of_lt ht, Nat.mod_eq_of_lt]
              exact Nat.lt_of_lt_of_le ht (Nat.pow_le_pow_right (n := 2) (by decide) (show 32 ≤ 8 * n - f by omega))
            · rw [show 8 * n - f = k by omega]
          have hnum : num l ^^^ num cl = t % 2 ^ (8 * n - f) * 2 ^ f := by
            rw [HN.out, xor_same, hD]
          have hiff : sum l = sum cl ↔ t % 2 ^ (8 * n - f) = 0 := by
            rw [sum_eq_iff l cl (by rw [hl, HCL.out]), hnum, hl]
            exact run32 (8 * n) f t ht (by omega)
          have hiff2 : l = cl ↔ t % 2 ^ (8 * n - f) = 0 := by
            constructor
            · intro e
              rw [← e, Nat.xor_self] at hnum
              have := Nat.mul_eq_zero.1 hnum.symm
              rcases this with h | h
              · exact h
              · exact absurd h (Nat.ne_of_gt (Nat.two_pow_pos f))
            · intro e
              rw [e, Nat.zero_mul, xor_zero_iff] at hnum
              exact num_inj l cl (by rw [hl, HCL.out]) hsl hsm hnum
          have HBC : Hid (Bs wr wr.heap.size ⟨some ⟨g, 0, none⟩, n, cap⟩ cl) := by
            refine ⟨HCL.out.symm, hsm, hncap, hcm2, fun _ => ⟨g, 0, rfl, hgr, fun i hi => ?_⟩⟩
            simp only at hi
            rw [Nat.zero_add, hown.cellAt i (by omega)]
            have hic : i < cl.length := by rw [HCL.out]; exact hi
            simp [bvs, bv, hic, List.getD_eq_getElem?_getD]
          have HBL : Hid (Bs wr wr.heap.size ⟨some ⟨b, o, none⟩, n, c⟩ l) := (HS1.out wr hg).more (gr_size hg)
          by_cases e0 : l = cl
          · have e1 : sum cl = sum l := by rw [← e0]
            have hd : decide (l = cl) = true := decide_eq_true e0
            have E1 := Lib.hid e1
            have HD := Lib.hid hd
            clear e0 e1 hd hiff hiff2 hnum hD hl hsl HN hsm hown
            rcases (by have := hend.out; omega : 32 ≤ k ∨ (k < 32 ∧ 8 * n ≤ f + k)) with h32 | ⟨h32, h8⟩
            all_goals
              go_wp2_with fail
              refine (same_any _ _ n c cap wr.heap.size l cl _ HBL.out HBC.out).mono ?_
              rintro e w3 ⟨rfl, q, rfl⟩
              rw [HD.out]
              have hg3 : Gr w (wr.drewN q) := below_drewN hg q
              have hb1 : Bs (wr.drewN q) (wr.drewN q).heap.size ⟨some ⟨b, o, none⟩, n, c⟩ l := HBL.out
              have hb2 : Bs (wr.drewN q) (wr.drewN q).heap.size ⟨some ⟨g, 0, none⟩, n, cap⟩ cl := HBC.out
              generalize wr.drewN q = w4 at *
              have HB1 : Hid (∀ W, Gr w4 W → Bs W w4.heap.size ⟨some ⟨b, o, none⟩, n, c⟩ l) := fun W hW => bs_gr hb1 hW (Nat.le_refl _)
              have HB2 : Hid (∀ W, Gr w4 W → Bs W w4.heap.size ⟨some ⟨g, 0, none⟩, n, cap⟩ cl) := fun W hW => bs_gr hb2 hW (Nat.le_refl _)
              clear hb1 hb2
              go_wp2_with fail
              refine (sum_oneG _ (HB1.out _ (Gr.refl _)) (Nat.le_refl _) _).mono ?_
              rintro e w5 ⟨rfl, hg5⟩
              have hg5' : Gr w4 w5 := Gr.step hg5 (Gr.at_alloc _ _)
              clear hg5
              go_wp2_with fail
              refine (sum_oneG _ (HB2.out _ hg5') (gr_size hg5') _).mono ?_
              rintro e w6 ⟨rfl, hg6⟩
              have hg6' : Gr w4 w6 := Gr.step hg6 (hg5'.alloc _)
              clear hg6
              rw [E1.out]
              go_wp2_with fail
              refine (sum_oneG _ (HB1.out _ hg6') (gr_size hg6') _).mono ?_
              rintro e w7 ⟨rfl, hg7⟩
              have hg7' : Gr w4 w7 := Gr.step hg7 (hg6'.alloc _)
              clear hg7
              go_wp2_with fail
              refine (fits_yes _ _ _ cl (sum l) _ _ (HB2.out _ hg7') (gr_size hg7') E1.out).mono ?_
              rintro e w8 ⟨rfl, hg8⟩
              have hg8' : Gr w4 w8 := Gr.step hg8 hg7'
              clear hg8
              go_wp2_with fail
              go_ret
              exact ⟨rfl, Gr.step hg8' hg3⟩
          · have e1 : sum cl ≠ sum l := fun e => e0 (hiff2.2 (hiff.1 e.symm))
            have hd : decide (l = cl) = false := decide_eq_false e0
            have E1 := Lib.hid e1
            have HD := Lib.hid hd
            have hb : (((sum l : Nat) : Int) == ((sum cl : Nat) : Int)) = false := by
              have := E1.out
              simp; omega
            clear e0 e1 hd hiff hiff2 hnum hD hl hsl HN hsm hown
            rcases (by have := hend.out; omega : 32 ≤ k ∨ (k < 32 ∧ 8 * n ≤ f + k)) with h32 | ⟨h32, h8⟩
            all_goals
              go_wp2_with fail
              refine (same_any _ _ n c cap wr.heap.size l cl _ HBL.out HBC.out).mono ?_
              rintro e w3 ⟨rfl, q, rfl⟩
              rw [HD.out]
              have hg3 : Gr w (wr.drewN q) := below_drewN hg q
              have hb1 : Bs (wr.drewN q) (wr.drewN q).heap.size ⟨some ⟨b, o, none⟩, n, c⟩ l := HBL.out
              have hb2 : Bs (wr.drewN q) (wr.drewN q).heap.size ⟨some ⟨g, 0, none⟩, n, cap⟩ cl := HBC.out
              generalize wr.drewN q = w4 at *
              have HB1 : Hid (∀ W, Gr w4 W → Bs W w4.heap.size ⟨some ⟨b, o, none⟩, n, c⟩ l) := fun W hW => bs_gr hb1 hW (Nat.le_refl _)
              have HB2 : Hid (∀ W, Gr w4 W → Bs W w4.heap.size ⟨some ⟨g, 0, none⟩, n, cap⟩ cl) := fun W hW => bs_gr hb2 hW (Nat.le_refl _)
              clear hb1 hb2
              go_wp2_with fail
              refine (sum_oneG _ (HB1.out _ (Gr.refl _)) (Nat.le_refl _) _).mono ?_
              rintro e w5 ⟨rfl, hg5⟩
              have hg5' : Gr w4 w5 := Gr.step hg5 (Gr.at_alloc _ _)
              clear hg5
              go_wp2_with fail
              refine (sum_oneG _ (HB2.out _ hg5') (gr_size hg5') _).mono ?_
              rintro e w6 ⟨rfl, hg6⟩
              have hg6' : Gr w4 w6 := Gr.step hg6 (hg5'.alloc _)
              clear hg6
              go_wp2_with fail
              refine (sum_oneG _ (HB1.out _ hg6') (gr_size hg6') _).mono ?_
              rintro e w7 ⟨rfl, hg7⟩
              have hg7' : Gr w4 w7 := Gr.step hg7 (hg6'.alloc _)
              clear hg7
              go_wp2_with fail
              refine (fits_no _ _ _ cl (sum l) _ _ (HB2.out _ hg7') (gr_size hg7') E1.out).mono ?_
              rintro e w8 ⟨rfl, hg8⟩
              have hg8' : Gr w4 w8 := Gr.step hg8 hg7'
              clear hg8
              go_wp2_with fail
              go_ret
              exact ⟨rfl, Gr.step hg8' hg3⟩
end Go.Proofs.Ytkdphgcbecldbaa
