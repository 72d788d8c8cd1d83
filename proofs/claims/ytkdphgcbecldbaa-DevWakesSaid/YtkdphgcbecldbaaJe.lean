/- Texts of the proof, one behind the other: MixH. -/
import Derived.Test.YtkdphgcbecldbaaJd
/- MixTells: the sum of any parts, whether any sum fits them, and any sums joined are what the document tells; the parts stay. -/
namespace Go.Proofs.Ytkdphgcbecldbaa
open Go.RowKit MixM

def tot (n : Nat) (ls : List (List Nat)) (k : Nat) : Nat := n + ((ls.take k).map List.length).sum
theorem tot_succ (n : Nat) (ls : List (List Nat)) (k : Nat) (h : k < ls.length) : tot n ls (k + 1) = tot n ls k + (ls.getD k []).length := by
  unfold tot
  rw [List.take_succ_eq_append_getElem h, List.map_append, List.sum_append, List.getD_eq_getElem?_getD, List.getElem?_eq_getElem h]
  simp [Nat.add_assoc]
theorem tot_mono (n : Nat) (ls : List (List Nat)) (j k : Nat) (h : j ≤ k) (hk : k ≤ ls.length) : tot n ls j ≤ tot n ls k := by
  induction k with
  | zero => obtain rfl : j = 0 := by omega
            exact Nat.le_refl _
  | succ k ih =>
    rcases (by omega : j ≤ k ∨ j = k + 1) with h1 | h1
    · rw [tot_succ n ls k (by omega)]; have := ih h1 (by omega); omega
    · rw [h1]; exact Nat.le_refl _
theorem tot_part (n : Nat) (ls : List (List Nat)) (i : Nat) (h : i < ls.length) : n + (ls.getD i []).length ≤ tot n ls ls.length := by
  have h1 := tot_mono n ls (i + 1) ls.length (by omega) (Nat.le_refl _)
  rw [tot_succ n ls i h] at h1
  have h2 : n ≤ tot n ls i := Nat.le_add_right _ _
  omega

/-- two cells and all that was stand while the world grows -/
def Keep2 (W0 : World) (p1 p2 : Addr) (v1 v2 : Value) (w : World) : Prop := Gr W0 w ∧ w.cell? p1 = some v1 ∧ w.cell? p2 = some v2
theorem cell_gr {a b : World} {p : Addr} {v : Value} (h : Gr a b) (hp : a.cell? p = some v) : b.cell? p = some v := (Below.cell h (World.block_lt_of_cell? a p hp)).trans hp
theorem keep2_step {W0 b c : World} {p1 p2 : Addr} {v1 v2 : Value} (h : Gr b c) (s : Gr W0 b ∧ b.cell? p1 = some v1 ∧ b.cell? p2 = some v2) : Gr W0 c ∧ c.cell? p1 = some v1 ∧ c.cell? p2 = some v2 :=
  ⟨Gr.step h s.1, cell_gr h s.2.1, cell_gr h s.2.2⟩
theorem fits_g {A : Option Addr} {n c : Nat} {l : List Nat} {B : Nat} (s : Nat) {w : World} (h : Bs w B ⟨A, n, c⟩ l) (hB : B ≤ w.heap.size) :
    Calls Try.prog 13 #[.slice A n c, .int .u32 s] w fun e w' => e = .returned (.int .i64 (fitsN l s)) ∧ Gr w w' := fits_any A n c l s B w h hB
theorem reffits_g {A : Option Addr} {n c : Nat} {l : List Nat} {B : Nat} (s : Nat) {w : World} (h : Bs w B ⟨A, n, c⟩ l) (hB : B ≤ w.heap.size) :
    Calls Try.prog 14 #[.slice A n c, .int .u32 s] w fun e w' => e = .returned (.int .i64 (fitsN l s)) ∧ Gr w w' := reffits_any A n c B l s w h hB
theorem of_g {A : Option Addr} {n c : Nat} {l : List Nat} {B : Nat} {w : World} (h : Bs w B ⟨A, n, c⟩ l) (hB : B ≤ w.heap.size) :
    Calls Try.prog 15 #[.slice A n c] w fun e w' => e = .returned (.int .u32 ((sum l : Nat) : Int)) ∧ Gr w w' := of_any A n c B l w h hB

set_option maxRecDepth 100000 in
set_option maxHeartbeats 2000000 in
theorem mixtells_big (A : Option Addr) (n c : Nat) (ss : List Sl) (ls : List (List Nat)) (a b : Nat) (m : Int) (w : World) (h : Rs w w.heap.size ⟨A, n, c⟩ ss ls)
    (hl : ∀ i, i < n → (ls.getD i []).length ≤ 140737488351232) (hn : n ≤ 140737488351232) (hbig : 20000 < tot n ls n ∨ 20000 < m) :
    Calls Try.prog 3 #[.slice A n c, .int .u32 a, .int .u32 b, .int .i64 m] w fun e w' => e = .returned (.bool true) ∧ Gr w w' := by
  have hnc : n ≤ c := h.2.2.1.1
  have hcm : c ≤ 9223372036854775807 := h.2.2.1.2.1
  have hll : ls.length = n := by rw [← h.2.1, ← h.1]
  have HLL := Lib.hid hll
  have H := Lib.hid h
  have HL := Lib.hid hl
  have HBig := Lib.hid hbig
  clear h hl hll hbig
  go_enter Try.func3, Try.ntmps3
  go_wp2_with fail
  go_loop [9, 10] (fun v i => ∃ k s : Nat, k ≤ n ∧ i = .int .i64 k ∧ v = .int .i64 s ∧ Hid (s = tot n ls k) ∧ s ≤ 281474976710656) (fun _ i => n - (intOf i).toNat)
  case atStart => exact ⟨0, n, by omega, rfl, rfl, rfl, by omega⟩
  case round =>
    obtain ⟨k, s, hk, rfl, rfl, HT, hs⟩ := hrel
    by_cases hkn : k < n
    · by_cases hs2 : s ≤ 20000
      · obtain ⟨b1, o1, hA, _, hcell⟩ := H.out.2.2.1.2.2 (by omega : 0 < n)
        have hck := hcell k hkn
        have hRk := H.out.2.2.2 k hkn
        have hlk := HL.out k hkn
        have hts : tot n ls (k + 1) = s + (ls.getD k []).length := by rw [HT.out]; exact tot_succ n ls k (by rw [HLL.out]; exact hkn)
        simp only at hA hck
        subst hA
        generalize ls.getD k [] = l at *
        generalize ss.getD k ⟨none, 0, 0⟩ = sl at *
        obtain ⟨A', n', c'⟩ := sl
        simp only [Sl.v] at hck
        have hn' : n' = l.length := hRk.1
        subst hn'
        have HTS := Lib.hid hts
        clear hRk hcell hts
        go_wp2_with fail
        go_round
        case rel => exact ⟨k + 1, s + l.length, by omega, by go_num, by go_num, HTS.out.symm, by omega⟩
        case measure => simp [intOf]; omega
      · go_wp2_with fail
        refine (awake1 _).mono ?_
        rintro e w1 ⟨rfl, hg1⟩
        go_wp2_with fail
        go_ret
        exact ⟨rfl, hg1⟩
    · obtain rfl : k = n := by omega
      by_cases hs2 : s ≤ 20000
      · have hm : 20000 < m := by
          rcases HBig.out with h | h
          · have := HT.out; omega
          · exact h
        go_wp2_with fail
        refine (awake1 _).mono ?_
        rintro e w1 ⟨rfl, hg1⟩
        go_wp2_with fail
        go_ret
        exact ⟨rfl, hg1⟩
      · go_wp2_with fail
        refine (awake1 _).mono ?_
        rintro e w1 ⟨rfl, hg1⟩
        go_wp2_with fail
        go_ret
        exact ⟨rfl, hg1⟩

def lentS (g : Nat) (l : List Nat) : Sl := ⟨some ⟨g, 0, none⟩, l.length, l.length + 12⟩
theorem zip_getD (gs : List Nat) (ls : List (List Nat)) (i : Nat) (h1 : i < gs.length) (h2 : i < ls.length) : (List.zipWith lentS gs ls).getD i ⟨none, 0, 0⟩ = lentS (gs.getD i 0) (ls.getD i []) := by
  simp only [List.getD_eq_getElem?_getD, List.getElem?_zipWith, List.getElem?_eq_getElem h1, List.getElem?_eq_getElem h2, Option.getD_some]
theorem InAt.rs {w : World} {s : Sl} {gs : List Nat} {ls : List (List Nat)} (h : InAt w s gs ls) (hs : ∀ i, i < s.n → Small (ls.getD i [])) (hl : ∀ i, i < s.n → (ls.getD i []).length ≤ 1000000) :
    Rs w w.heap.size s (List.zipWith lentS gs ls) ls := by
  have e1 : s.n = gs.length := h.1
  have e2 : gs.length = ls.length := h.2.1
  refine ⟨?_, ?_, h.2.2.1.congr fun i hi => ?_, fun i hi => ?_⟩
  · rw [List.length_zipWith, ← e2, Nat.min_self, e1]
  · rw [List.length_zipWith, ← e2, Nat.min_self]
  · rw [zip_getD gs ls i (by omega) (by omega)]; rfl
  · rw [zip_getD gs ls i (by omega) (by omega)]
    exact h.2.2.2.bs i (by omega) (hs i hi) (hl i hi)
def joinI (a b : Nat) (m : Int) : Nat := if m < 1 then a else shN (8 * m.toNat) a ^^^ b
theorem join_int (a b : Nat) (m : Int) (w : World) (ha : a < 4294967296) (hb : b < 4294967296) (hm : m ≤ 20000) :
    Calls Try.prog 18 #[.int .u32 a, .int .u32 b, .int .i64 m] w fun e w' => e = .returned (.int .u32 ((joinI a b m : Nat) : Int)) ∧ w = w' := by
  unfold joinI
  by_cases h : m < 1
  · rw [if_pos h]; exact join_low a b m w h
  · rw [if_neg h]
    obtain ⟨k, rfl⟩ := Int.eq_ofNat_of_zero_le (show 0 ≤ m by omega)
    rw [Int.toNat_natCast]
    exact join_any a b k w ha hb (by omega) (by omega)
theorem refjoin_int (a b : Nat) (m : Int) (w : World) (ha : a < 4294967296) (hb : b < 4294967296) (hm : m ≤ 20000) :
    Calls Try.prog 19 #[.int .u32 a, .int .u32 b, .int .i64 m] w fun e w' => e = .returned (.int .u32 ((joinI a b m : Nat) : Int)) ∧ w = w' := by
  unfold joinI
  by_cases h : m < 1
  · rw [if_pos h]; exact refjoin_low a b m w h
  · rw [if_neg h]
    obtain ⟨k, rfl⟩ := Int.eq_ofNat_of_zero_le (show 0 ≤ m by omega)
    rw [Int.toNat_natCast]
    exact refjoin_any a b k w ha hb (by omega) (by omega)

set_option maxRecDepth 100000 in
set_option maxHeartbeats 4000000 in
theorem mixtells_small (A : Option Addr) (n c : Nat) (ss : List Sl) (ls : List (List Nat)) (a b : Nat) (m : Int) (w : World) (h : Rs w w.heap.size ⟨A, n, c⟩ ss ls) (ha : a < 4294967296) (hb : b < 4294967296)
    (h0 : ∀ i, i < n → (ss.getD i ⟨none, 0, 0⟩).a = none → (ss.getD i ⟨none, 0, 0⟩).c = 0) (hsm : tot n ls n ≤ 20000) (hm : m ≤ 20000) :
    Calls Try.prog 3 #[.slice A n c, .int .u32 a, .int .u32 b, .int .i64 m] w fun e w' => e = .returned (.bool true) ∧ Gr w w' := by
  have hnc : n ≤ c := h.2.2.1.1
  have hcm : c ≤ 9223372036854775807 := h.2.2.1.2.1
  have hll : ls.length = n := by rw [← h.2.1, ← h.1]
  have hlen : ∀ i, i < n → n + (ls.getD i []).length ≤ 20000 := fun i hi => by
    have := tot_part n ls i (by rw [hll]; exact hi)
    rw [hll] at this
    omega
  have hn20 : n ≤ 20000 := Nat.le_trans (Nat.le_add_right _ _) hsm
  have hmono : ∀ k, k ≤ n → tot n ls k ≤ 20000 := fun k hk => Nat.le_trans (tot_mono n ls k n hk (by rw [hll]; exact Nat.le_refl _)) hsm
  have HLL := Lib.hid hll
  have H := Lib.hid h
  have H0 := Lib.hid h0
  have HL := Lib.hid hlen
  have HM := Lib.hid hmono
  clear h hll hlen hmono hsm h0
  go_enter Try.func3, Try.ntmps3
  go_wp2_with fail
  go_loop [9, 10] (fun v i => ∃ k s : Nat, k ≤ n ∧ i = .int .i64 k ∧ v = .int .i64 s ∧ Hid (s = tot n ls k) ∧ s ≤ 20000) (fun _ i => n - (intOf i).toNat)
  case atStart => exact ⟨0, n, by omega, rfl, rfl, rfl, hn20⟩
  case round =>
    obtain ⟨k, s, hk, rfl, rfl, HT, hs⟩ := hrel
    by_cases hkn : k < n
    · obtain ⟨b1, o1, hA, _, hcell⟩ := H.out.2.2.1.2.2 (by omega : 0 < n)
      have hck := hcell k hkn
      have hRk := H.out.2.2.2 k hkn
      have hts : tot n ls (k + 1) = s + (ls.getD k []).length := by rw [HT.out]; exact tot_succ n ls k (by rw [HLL.out]; exact hkn)
      have hb2 : s + (ls.getD k []).length ≤ 20000 := by rw [← hts]; exact HM.out (k + 1) (by omega)
      simp only at hA hck
      subst hA
      generalize ls.getD k [] = l at *
      generalize ss.getD k ⟨none, 0, 0⟩ = sl at *
      obtain ⟨A', n', c'⟩ := sl
      simp only [Sl.v] at hck
      have hn' : n' = l.length := hRk.1
      subst hn'
      have HTS := Lib.hid hts
      clear hRk hcell hts
      go_wp2_with fail
      go_round
      case rel => exact ⟨k + 1, s + l.length, by omega, by go_num, by go_num, HTS.out.symm, by omega⟩
      case measure => simp [intOf]; omega
    · obtain rfl : k = n := by omega
      clear HT
      go_wp2_with fail
      refine (lentrows_any A k c ss ls _ H.out (by omega) (fun i hi => by have := HL.out i hi; omega) H0.out).mono ?_
      rintro e w1 ⟨v, gs, rfl, hgl, hown, hlent, hg1⟩
      obtain ⟨⟨Ai, ni, ci⟩, rfl, hni, hin⟩ := inAt_of hown hgl HLL.out hlent
      simp only at hni
      subst hni
      have hnci : ni ≤ ci := hin.2.2.1.1
      have hcim : ci ≤ 9223372036854775807 := hin.2.2.1.2.1
      have hg1 : Gr w w1 := hg1
      have HI := Lib.hid hin
      have HGL := Lib.hid hgl
      clear hown hlent hin hgl
      simp only [Sl.v]
      go_wp2_with fail
      go_loopw [12] (fun i wr => ∃ k : Nat, k ≤ ni ∧ i = .int .i64 k ∧ Gr w1 wr) (fun i _ => ni - (intOf i).toNat)
      case atStart => exact ⟨0, by omega, rfl, Gr.refl _⟩
      case round =>
        obtain ⟨k, hk2, rfl, hgr⟩ := hrel
        by_cases hk3 : k < ni
        · have hR1 : Rs wr w.heap.size ⟨A, ni, c⟩ ss ls := H.out.below (Gr.step hgr hg1) (Nat.le_refl _)
          have hI1 : InAt wr ⟨Ai, ni, ci⟩ gs ls := HI.out.below hgr
          obtain ⟨b1, o1, hA, _, hcell⟩ := hR1.2.2.1.2.2 (by omega : 0 < ni)
          obtain ⟨b2, o2, hA2, _, hcell2⟩ := hI1.2.2.1.2.2 (by omega : 0 < ni)
          have hck := hcell k hk3
          have hck2 := hcell2 k hk3
          have hRk := hR1.2.2.2 k hk3
          have hIk := hI1.2.2.2.bs k (by rw [HGL.out]; exact hk3) hRk.2.1 (by have := HL.out k hk3; omega)
          simp only at hA hA2 hck hck2
          subst hA
          subst hA2
          generalize ls.getD k [] = l at *
          generalize gs.getD k 0 = g at *
          generalize ss.getD k ⟨none, 0, 0⟩ = sl at *
          obtain ⟨A', n', c'⟩ := sl
          simp only [Sl.v] at hck
          simp only [lentV] at hck2
          have hn' : n' = l.length := hRk.1
          subst hn'
          have HRk := Lib.hid hRk
          have HIk := Lib.hid hIk
          have HSz : Hid (w.heap.size ≤ wr.heap.size) := gr_size (Gr.step hgr hg1)
          have hfit : fitsN l (sum l) = 0 := if_pos rfl
          generalize hsl : sum l = sl at hfit
          generalize hfa : fitsN l a = fa
          have HF := Lib.hid hfit
          have HSL := Lib.hid hsl
          have HFA := Lib.hid hfa
          have hd1 : ((fa : Int) != fa) = false := by simp
          clear hR1 hI1 hcell hcell2 hRk hIk hfit hsl hfa
          go_wp2_with fail
          go_region_held3 (fun w' => Gr wr w' ∧ w'.cell? ⟨b1, o1 + k, none⟩ = some (.slice A' l.length c') ∧ w'.cell? ⟨b2, o2 + k, none⟩ = some (.slice (some ⟨g, 0, none⟩) l.length (l.length + 12)))
            (first | assumption | exact ⟨Gr.drew _, hck, hck2⟩ | exact keep2_step (Gr.at_alloc _ _) (by assumption) | exact keep2_step (by assumption) (by assumption))
            (first
             | (go_at_call 13; (with_reducible refine (fits_g a (bs_gr HIk.out (And.left (by assumption)) (Nat.le_refl _)) (gr_size (And.left (by assumption)))).mono ?_); rw [HFA.out]; rintro e w' ⟨rfl, hb'⟩)
             | (go_at_call 14; (with_reducible refine (reffits_g a (bs_gr HRk.out (And.left (by assumption)) HSz.out) (Nat.le_trans HSz.out (gr_size (And.left (by assumption))))).mono ?_); rw [HFA.out]; rintro e w' ⟨rfl, hb'⟩)
             | (go_at_call 15; (with_reducible refine (of_g (bs_gr HRk.out (And.left (by assumption)) HSz.out) (Nat.le_trans HSz.out (gr_size (And.left (by assumption))))).mono ?_); rw [HSL.out]; rintro e w' ⟨rfl, hb'⟩)
             | (go_at_call 13; (with_reducible refine (fits_g sl (bs_gr HIk.out (And.left (by assumption)) (Nat.le_refl _)) (gr_size (And.left (by assumption)))).mono ?_); rw [HF.out]; rintro e w' ⟨rfl, hb'⟩)
             | fail "no arm")
          go_wp2_with fail
          go_roundw
          case rel => exact ⟨k + 1, by omega, by go_num, Gr.step (And.left (by assumption)) hgr⟩
          case measure => simp [intOf]; omega
        · obtain rfl : k = ni := by omega
          have hR1 : Rs wr w.heap.size ⟨A, k, c⟩ ss ls := H.out.below (Gr.step hgr hg1) (Nat.le_refl _)
          have hI1 : InAt wr ⟨Ai, k, ci⟩ gs ls := HI.out.below hgr
          have hsmall : ∀ i, i < k → Small (ls.getD i []) := fun i hi => (hR1.2.2.2 i hi).2.1
          have hR2 := hI1.rs hsmall (fun i hi => by have := HL.out i hi; omega)
          have HR1 := Lib.hid hR1
          have HR2 := Lib.hid hR2
          have HI1 := Lib.hid hI1
          have HK : Hid (∀ i, i < k → (ls.getD i []).length ≤ 1000000) := fun i hi => by have := HL.out i hi; omega
          have hwr : Gr w wr := Gr.step hgr hg1
          clear hR1 hR2 hI1 hsmall hk2 hk3 hgr
          go_wp2_with fail
          refine (sum_any Ai k ci _ ls _ HR2.out).mono ?_
          rintro e w3 ⟨rfl, hb3⟩
          have hg3 : Gr wr w3 := hb3
          clear hb3
          generalize hS : sum ls.flatten = S
          have HS := Lib.hid hS
          clear hS
          have HR3 : Hid (Rs w3 w.heap.size ⟨A, k, c⟩ ss ls) := HR1.out.below hg3 (gr_size hwr)
          have HI3 : Hid (InAt w3 ⟨Ai, k, ci⟩ gs ls) := HI1.out.below hg3
          go_wp2_with fail
          refine (refsum_any A k c w.heap.size ss ls _ HR3.out).mono ?_
          rintro e w4 ⟨rfl, rfl⟩
          rw [HS.out]
          go_wp2_with fail
          refine (join_int a b m _ ha hb hm).mono ?_
          rintro e w4 ⟨rfl, rfl⟩
          generalize hJ : joinI a b m = J
          have HJ := Lib.hid hJ
          clear hJ
          go_wp2_with fail
          refine (refjoin_int a b m _ ha hb hm).mono ?_
          rintro e w4 ⟨rfl, rfl⟩
          rw [HJ.out]
          go_wp2_with fail
          refine (keptrows_any Ai A k ci c w.heap.size gs ss ls _ HI3.out HR3.out HK.out).mono ?_
          rintro e w4 ⟨rfl, q, rfl⟩
          go_wp2_with fail
          refine (awake1 _).mono ?_
          rintro e w5 ⟨rfl, hg5⟩
          go_wp2_with fail
          go_ret
          exact ⟨rfl, Gr.step hg5 (below_drewN (Gr.step hg3 hwr) q)⟩

/-- the law, at any parts -/
theorem mixtells_any (A : Option Addr) (n c : Nat) (ss : List Sl) (ls : List (List Nat)) (a b : Nat) (m : Int) (w : World) (h : Rs w w.heap.size ⟨A, n, c⟩ ss ls) (ha : a < 4294967296) (hb : b < 4294967296)
    (hl : ∀ i, i < n → (ls.getD i []).length ≤ 140737488351232) (hn : n ≤ 140737488351232) (h0 : ∀ i, i < n → (ss.getD i ⟨none, 0, 0⟩).a = none → (ss.getD i ⟨none, 0, 0⟩).c = 0) :
    Calls Try.prog 3 #[.slice A n c, .int .u32 a, .int .u32 b, .int .i64 m] w fun e w' => e = .returned (.bool true) ∧ Gr w w' := by
  by_cases hbig : 20000 < tot n ls n ∨ 20000 < m
  · exact mixtells_big A n c ss ls a b m w h hl hn hbig
  · exact mixtells_small A n c ss ls a b m w h ha hb h0 (by omega) (by omega)
end Go.Proofs.Ytkdphgcbecldbaa
