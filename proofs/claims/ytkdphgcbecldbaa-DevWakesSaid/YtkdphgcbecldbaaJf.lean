/- Texts of the proof, one behind the other: MixI, DevC. -/
import Derived.Test.YtkdphgcbecldbaaJe
import Derived.Test.YtkdphgcbecldbaaJc
import Derived.Deep.MidRow
import Derived.Deep.AppendLies
/- MixEnds: the closed statement of layer 1. -/
namespace Go.Proofs.Ytkdphgcbecldbaa
open Go.RowKit MixM

theorem not_u8 (n : Nat) (h : n < 256) : bits .xor .u8 IntKind.u8.max (n : Int) = ((255 ^^^ n : Nat) : Int) := by
  rw [show IntKind.u8.max = ((255 : Nat) : Int) from rfl, u8_xor_nat _ _ (by omega) h]
theorem bs_own {w : World} {B r cap : Nat} {A : Option Addr} {row : List Nat} (h : w.ownsRow B 5 1 (.slice A r cap) r (bvs row)) (hs : Small row) : Bs w w.heap.size ⟨A, r, cap⟩ row := by
  have hl : r = row.length := by have := h.1; simp only [bvs, List.length_map, Nat.mul_one] at this; exact this.symm
  rcases h.2 with ⟨h1, h2⟩ | ⟨g, cap', cur, hv, _, hh, h1, h2, h3, h4⟩
  · injection h1 with e1 e2 e3
    subst e1; subst e3
    exact ⟨hl, hs, by simp only; omega, by simp only; omega, fun h0 => by simp only at h0; omega⟩
  · injection hv with e1 e2 e3
    subst e1; subst e3
    refine ⟨hl, hs, h1, by unfold maxLen at h2; exact h2, fun _ => ⟨g, 0, rfl, ?_, fun i hi => ?_⟩⟩
    · rcases Nat.lt_or_ge g w.heap.size with hlt | hge
      · exact hlt
      · rw [Array.getElem?_eq_none hge] at hh; cases hh
    · simp only at hi
      rw [Nat.zero_add, h.cellAt i (by omega)]
      have hi2 : i < row.length := by omega
      simp only [bvs, bv, List.getElem?_map, List.getElem?_eq_getElem hi2, List.getD_eq_getElem?_getD, Option.map_some, Option.getD_some]

theorem Bs.head {w : World} {B : Nat} {s : Sl} {l : List Nat} (h : Bs w B s l) (k : Nat) (hk : k ≤ s.n) : Bs w B ⟨s.a, k, s.c⟩ (l.take k) := by
  have h1 := h.2.2.1
  have h2 : s.n = l.length := h.1
  refine ⟨by simp only [List.length_take]; omega, small_take h.2.1 k, by simp only; omega, h.2.2.2.1, fun h0 => ?_⟩
  simp only at h0
  obtain ⟨b, o, hA, hb, hx⟩ := h.at_ (by omega)
  refine ⟨b, o, hA, hb, fun i hi => ?_⟩
  simp only at hi
  rw [hx i (by omega)]
  simp only [bv, List.getD_eq_getElem?_getD, List.getElem?_take, if_pos hi]
/-- two slices in a block, as a row of two -/
theorem sum_two {w : World} {g B : Nat} {A1 A2 : Option Addr} {n1 n2 c1 c2 : Nat} {l1 l2 : List Nat} (hg : w.heap[g]? = some (.cells #[.slice A1 n1 c1, .slice A2 n2 c2] 24 (0, 0))) (h1 : Bs w B ⟨A1, n1, c1⟩ l1) (h2 : Bs w B ⟨A2, n2, c2⟩ l2) (hB : B ≤ w.heap.size) :
    Calls Try.prog 16 #[.slice (some ⟨g, 0, none⟩) 2 2] w fun e w' => e = .returned (.int .u32 ((sum (l1 ++ l2) : Nat) : Int)) ∧ Gr w w' := by
  have hlt : g < w.heap.size := by
    rcases Nat.lt_or_ge g w.heap.size with hlt | hge
    · exact hlt
    · rw [Array.getElem?_eq_none hge] at hg; cases hg
  have h := sum_any (some ⟨g, 0, none⟩) 2 2 [⟨A1, n1, c1⟩, ⟨A2, n2, c2⟩] [l1, l2] w (by
    refine ⟨rfl, rfl, ⟨Nat.le_refl _, by simp only; omega, fun _ => ⟨g, 0, rfl, hlt, fun i hi => ?_⟩⟩, fun i hi => ?_⟩
    · simp only at hi
      rw [Nat.zero_add, cell_of_row _ g i _ _ _ hg]
      match i, hi with
      | 0, _ | 1, _ => rfl
    · simp only at hi
      match i, hi with
      | 0, _ => exact h1.more hB
      | 1, _ => exact h2.more hB)
  have e : [l1, l2].flatten = l1 ++ l2 := by simp
  rw [e] at h
  exact h
theorem heap_alloc_drew (w : World) (o : Obj) : ((w.alloc o).drew).heap[w.heap.size]? = some o := heap_alloc_new w o
theorem Blk.new (w : World) (t : TypeId) (cs : Array Value) : Blk (w.alloc (.cells cs t)) w.heap.size t cs := heap_alloc_new w _
theorem bs_blk {w : World} {g : Nat} {l : List Nat} (h : Blk w g 5 (bvs l).toArray) (hs : Small l) (hl : l.length ≤ 1000000) : Bs w w.heap.size ⟨some ⟨g, 0, none⟩, l.length, l.length⟩ l :=
  ⟨rfl, hs, Nat.le_refl _, by simp only; omega, fun _ => ⟨g, 0, rfl, h.lt, fun i hi => by rw [Nat.zero_add]; exact blk_bvs h i hi⟩⟩
set_option maxRecDepth 100000 in
theorem tells_four (w : World) (n x : Nat) (hn : n < 256) (hx : x < 256) :
    Calls Try.prog 3 #[.slice (some ⟨w.heap.size + 1 + 1 + 1 + 1, 0, none⟩) 4 4, .int .u32 ((n : Int) * 16777216), .int .u32 n, .int .i64 ((n : Int) % 71)]
      (((((w.alloc (.cells #[.int .u8 n] 5)).alloc (.cells #[.int .u8 n, .int .u8 x] 5)).alloc (.cells #[.int .u8 0, .int .u8 n, .int .u8 255] 5)).alloc (.cells #[.int .u8 n, .int .u8 n, .int .u8 n, .int .u8 n, .int .u8 n] 5)).alloc
        (.cells #[.slice (some ⟨w.heap.size, 0, none⟩) 1 1, .slice (some ⟨w.heap.size + 1, 0, none⟩) 2 2, .slice (some ⟨w.heap.size + 1 + 1, 0, none⟩) 3 3, .slice (some ⟨w.heap.size + 1 + 1 + 1, 0, none⟩) 5 5] 24)) fun e w' => e = .returned (.bool true) ∧ Gr w w' := by
  have b1 : Blk (w.alloc (.cells #[.int .u8 n] 5)) w.heap.size 5 (bvs [n]).toArray := Blk.new w 5 _
  have z1 : (w.alloc (.cells #[.int .u8 n] 5)).heap.size = w.heap.size + 1 := World.size_alloc _ _
  have g1 : Gr w (w.alloc (.cells #[.int .u8 n] 5)) := Gr.at_alloc _ _
  generalize w.alloc (.cells #[.int .u8 n] 5) = w1 at *
  have b2 : Blk (w1.alloc (.cells #[.int .u8 n, .int .u8 x] 5)) (w.heap.size + 1) 5 (bvs [n, x]).toArray := by rw [← z1]; exact Blk.new w1 5 _
  have z2 : (w1.alloc (.cells #[.int .u8 n, .int .u8 x] 5)).heap.size = w.heap.size + 1 + 1 := by rw [World.size_alloc, z1]
  have g2 : Gr w (w1.alloc (.cells #[.int .u8 n, .int .u8 x] 5)) := g1.alloc _
  replace b1 := b1.alloc (.cells #[.int .u8 n, .int .u8 x] 5)
  generalize w1.alloc (.cells #[.int .u8 n, .int .u8 x] 5) = w2 at *
  have b3 : Blk (w2.alloc (.cells #[.int .u8 0, .int .u8 n, .int .u8 255] 5)) (w.heap.size + 1 + 1) 5 (bvs [0, n, 255]).toArray := by rw [← z2]; exact Blk.new w2 5 _
  have z3 : (w2.alloc (.cells #[.int .u8 0, .int .u8 n, .int .u8 255] 5)).heap.size = w.heap.size + 1 + 1 + 1 := by rw [World.size_alloc, z2]
  have g3 : Gr w (w2.alloc (.cells #[.int .u8 0, .int .u8 n, .int .u8 255] 5)) := g2.alloc _
  replace b1 := b1.alloc (.cells #[.int .u8 0, .int .u8 n, .int .u8 255] 5)
  replace b2 := b2.alloc (.cells #[.int .u8 0, .int .u8 n, .int .u8 255] 5)
  generalize w2.alloc (.cells #[.int .u8 0, .int .u8 n, .int .u8 255] 5) = w3 at *
  have b4 : Blk (w3.alloc (.cells #[.int .u8 n, .int .u8 n, .int .u8 n, .int .u8 n, .int .u8 n] 5)) (w.heap.size + 1 + 1 + 1) 5 (bvs [n, n, n, n, n]).toArray := by rw [← z3]; exact Blk.new w3 5 _
  have z4 : (w3.alloc (.cells #[.int .u8 n, .int .u8 n, .int .u8 n, .int .u8 n, .int .u8 n] 5)).heap.size = w.heap.size + 1 + 1 + 1 + 1 := by rw [World.size_alloc, z3]
  have g4 : Gr w (w3.alloc (.cells #[.int .u8 n, .int .u8 n, .int .u8 n, .int .u8 n, .int .u8 n] 5)) := g3.alloc _
  replace b1 := b1.alloc (.cells #[.int .u8 n, .int .u8 n, .int .u8 n, .int .u8 n, .int .u8 n] 5)
  replace b2 := b2.alloc (.cells #[.int .u8 n, .int .u8 n, .int .u8 n, .int .u8 n, .int .u8 n] 5)
  replace b3 := b3.alloc (.cells #[.int .u8 n, .int .u8 n, .int .u8 n, .int .u8 n, .int .u8 n] 5)
  generalize w3.alloc (.cells #[.int .u8 n, .int .u8 n, .int .u8 n, .int .u8 n, .int .u8 n] 5) = w4 at *
  have s1 : Small [n] := by intro y hy; simp at hy; omega
  have s2 : Small [n, x] := by intro y hy; simp at hy; omega
  have s3 : Small [0, n, 255] := by intro y hy; simp at hy; omega
  have s4 : Small [n, n, n, n, n] := by intro y hy; simp at hy; omega
  have h : Rs (w4.alloc (.cells #[.slice (some ⟨w.heap.size, 0, none⟩) 1 1, .slice (some ⟨w.heap.size + 1, 0, none⟩) 2 2, .slice (some ⟨w.heap.size + 1 + 1, 0, none⟩) 3 3, .slice (some ⟨w.heap.size + 1 + 1 + 1, 0, none⟩) 5 5] 24)) (w4.heap.size + 1) ⟨some ⟨w4.heap.size, 0, none⟩, 4, 4⟩
      [⟨some ⟨w.heap.size, 0, none⟩, 1, 1⟩, ⟨some ⟨w.heap.size + 1, 0, none⟩, 2, 2⟩, ⟨some ⟨w.heap.size + 1 + 1, 0, none⟩, 3, 3⟩, ⟨some ⟨w.heap.size + 1 + 1 + 1, 0, none⟩, 5, 5⟩] [[n], [n, x], [0, n, 255], [n, n, n, n, n]] := by
    have hb : Gr w4 (w4.alloc (.cells #[.slice (some ⟨w.heap.size, 0, none⟩) 1 1, .slice (some ⟨w.heap.size + 1, 0, none⟩) 2 2, .slice (some ⟨w.heap.size + 1 + 1, 0, none⟩) 3 3, .slice (some ⟨w.heap.size + 1 + 1 + 1, 0, none⟩) 5 5] 24)) := Gr.at_alloc _ _
    refine ⟨rfl, rfl, ⟨Nat.le_refl _, by simp only; omega, fun _ => ⟨w4.heap.size, 0, rfl, by omega, fun i hi => ?_⟩⟩, fun i hi => ?_⟩
    · simp only at hi
      rw [Nat.zero_add, cell_of_row _ w4.heap.size i _ _ _ (heap_alloc_new w4 _)]
      match i, hi with
      | 0, _ | 1, _ | 2, _ | 3, _ => rfl
    · simp only at hi
      match i, hi with
      | 0, _ => exact (bs_gr (bs_blk b1 s1 (by simp)) hb (Nat.le_refl _)).more (by omega)
      | 1, _ => exact (bs_gr (bs_blk b2 s2 (by simp)) hb (Nat.le_refl _)).more (by omega)
      | 2, _ => exact (bs_gr (bs_blk b3 s3 (by simp)) hb (Nat.le_refl _)).more (by omega)
      | 3, _ => exact (bs_gr (bs_blk b4 s4 (by simp)) hb (Nat.le_refl _)).more (by omega)
  have hc := mixtells_any (some ⟨w4.heap.size, 0, none⟩) 4 4 _ _ (n * 16777216) n ((n : Int) % 71) (w4.alloc (.cells #[.slice (some ⟨w.heap.size, 0, none⟩) 1 1, .slice (some ⟨w.heap.size + 1, 0, none⟩) 2 2, .slice (some ⟨w.heap.size + 1 + 1, 0, none⟩) 3 3, .slice (some ⟨w.heap.size + 1 + 1 + 1, 0, none⟩) 5 5] 24))
    (by rw [World.size_alloc]; exact h) (by omega) (by omega) (fun i hi => by
      match i, hi with
      | 0, _ | 1, _ | 2, _ | 3, _ => simp) (by decide) (fun i hi => by
      match i, hi with
      | 0, _ | 1, _ | 2, _ | 3, _ => intro e; cases e)
  rw [show ((n * 16777216 : Nat) : Int) = (n : Int) * 16777216 by omega, z4] at hc
  exact hc.mono fun e w' ⟨he, hg⟩ => ⟨he, Gr.step hg (g4.alloc _)⟩
theorem tells_nil (a b m : Int) (w : World) (ha : 0 ≤ a ∧ a < 4294967296) (hb : 0 ≤ b ∧ b < 4294967296) :
    Calls Try.prog 3 #[.slice none 0 0, .int .u32 a, .int .u32 b, .int .i64 m] w fun e w' => e = .returned (.bool true) ∧ Gr w w' := by
  obtain ⟨x, rfl⟩ := Int.eq_ofNat_of_zero_le ha.1
  obtain ⟨y, rfl⟩ := Int.eq_ofNat_of_zero_le hb.1
  exact mixtells_any none 0 0 [] [] x y m w ⟨rfl, rfl, ⟨Nat.le_refl _, by simp, fun h => absurd h (by simp)⟩, fun i hi => absurd hi (by simp)⟩ (by omega) (by omega) (fun i hi => absurd hi (by omega)) (by omega) (fun i hi => absurd hi (by omega))
theorem join_79 (m : Int) (w : World) (hm : m < 1) : Calls Try.prog 18 #[.int .u32 7, .int .u32 9, .int .i64 m] w fun e w' => e = .returned (.int .u32 7) ∧ w = w' := join_low 7 9 m w hm
set_option maxRecDepth 100000 in
set_option maxHeartbeats 2000000 in
theorem mixends_any (w : World) : Calls Try.prog 4 #[] w fun e w' => e = .returned (.bool true) ∧ Gr w w' := by
  obtain ⟨i5, hi, hz, hs, hby⟩ := info_parts info5
  go_enter Try.func4, Try.ntmps4
  go_wp2_with fail
  go_loopw [1, 2] (fun v i wr => ∃ (n r : Nat) (A : Option Addr) (cap : Nat) (row : List Nat), n ≤ 256 ∧ i = .int .i64 n ∧ v = .slice A r cap ∧ Hid (r = min n 70) ∧ wr.ownsRow w.heap.size 5 1 (.slice A r cap) r (bvs row) ∧ Small row ∧ Gr w wr) (fun _ i _ => 256 - (intOf i).toNat)
  case atStart => exact ⟨0, 0, none, 0, [], by omega, rfl, rfl, rfl, World.ownsRow_nil _ _ _ _, (by intro x hx; cases hx), Gr.refl _⟩
  case round =>
    obtain ⟨n, r, A, cap, row, hn, rfl, rfl, HR, hown, hsm, hg⟩ := hrel
    by_cases hn256 : n < 256
    · have hx1 := not_u8 n hn256
      have hx2 : 255 ^^^ n < 256 := Nat.xor_lt_two_pow (n := 8) (by omega) (by omega)
      generalize hxx : 255 ^^^ n = x at hx1 hx2
      have HOWN := Lib.hid hown
      clear hown hxx
      go_wp2_with fail
      refine (tells_four _ _ _ hn256 hx2).mono ?_
      rintro e w1 ⟨rfl, hg1⟩
      have hg1' : Gr w w1 := Gr.step hg1 hg
      have HOWN1 : Hid (w1.ownsRow w.heap.size 5 1 (.slice A r cap) r (bvs row)) := ownsRow_below HOWN.out hg1
      clear hx1 hx2 hg1 hg HOWN
      go_wp2_with fail
      go_loopw [4] (fun i wr' => ∃ k : Nat, k ≤ n + 1 ∧ i = .int .i64 k ∧ Gr w1 wr') (fun i _ => n + 1 - (intOf i).toNat)
      case atStart => exact ⟨0, by omega, rfl, Gr.refl _⟩
      case round =>
        obtain ⟨k, hk, rfl, hg2⟩ := hrel
        by_cases hn70 : n < 70
        · obtain rfl : r = n := by have := HR.out; omega
          by_cases hkn : k ≤ r
          · have HOWN2 := ownsRow_below HOWN1.out hg2
            have hB := bs_own HOWN2 hsm
            have hnc : r ≤ cap := hB.2.2.1
            have hcm : cap ≤ 9223372036854775807 := hB.2.2.2.1
            have hBk := hB.head k hkn
            have hBr := hB.cut k hkn
            have hrl : row.length = r := hB.1.symm
            have hX : sum (row.take k) < 4294967296 := sum_lt (small_take hsm k)
            have hY : sum (row.drop k) < 4294967296 := sum_lt fun x hx => hsm x (List.mem_of_mem_drop hx)
            have hJ : Hid (∀ (W : World) (D : Int), D = (r : Int) - (k : Int) → Calls Try.prog 18 #[.int .u32 ((sum (row.take k) : Nat) : Int), .int .u32 ((sum (row.drop k) : Nat) : Int), .int .i64 D] W fun e w' => e = .returned (.int .u32 ((sum row : Nat) : Int)) ∧ W = w') := by
              intro W D hD
              have h := join_nat (sum (row.take k)) (sum (row.drop k)) (r - k) W hX hY (by omega)
              have e : r - k = (row.drop k).length := by rw [List.length_drop, hrl]
              rw [e, joinN_sum, List.take_append_drop, ← e, show (((r - k : Nat)) : Int) = D by omega] at h
              exact h
            have hST : row.take k ++ row.drop k = row := List.take_append_drop k row
            have hgap : A = none ∨ ∃ g, A = some ⟨g, 0, none⟩ := by
              rcases HOWN2.2 with ⟨h1, _⟩ | ⟨g, cap', cur, hv, _⟩
              · injection h1 with h1; exact .inl h1
              · injection hv with h1; exact .inr ⟨g, h1⟩
            have hnone : A = none → cap = 0 := by
              intro e
              rcases HOWN2.2 with ⟨h1, _⟩ | ⟨g, cap', cur, hv, _⟩
              · injection h1
              · injection hv with h1; rw [e] at h1; cases h1
            have HST := Lib.hid hST
            have HW1 : Hid (Gr w1 wr) := hg2
            generalize hS : sum row = S at *
            generalize hXX : sum (row.take k) = X at *
            generalize hYY : sum (row.drop k) = Y at *
            have HS := Lib.hid hS
            have HX := Lib.hid hXX
            have HY := Lib.hid hYY
            clear hS hXX hYY hX hY hST HOWN2 hrl hg2
            by_cases hck : cap = k
            · obtain rfl : k = r := by omega
              subst hck
              have HB := Lib.hid hB
              have HBk : Hid (Bs wr wr.heap.size ⟨A, cap, cap⟩ row) := hB
              have HBr : Hid (Bs wr wr.heap.size ⟨A, 0, 0⟩ (row.drop cap)) := by
                have := hBr
                rw [if_pos rfl, Nat.sub_self] at this
                exact this
              have hXS : X = S := by rw [← HX.out, ← HS.out, List.take_of_length_le (by have := HB.out.1; simp only at this; omega)]
              subst hXS
              have hT : row ++ List.drop cap row = row := by rw [List.drop_of_length_le (by have := HB.out.1; simp only at this; omega), List.append_nil]
              have HST := Lib.hid hT
              clear hB hBk hBr hnone hgap hT
              have i1 : (0 : Int) ≤ (cap : Int) := by omega
              have i0 : IntKind.i64.wrap 0 = 0 := IntWalk.i64_in _ (by omega)
              go_wp2_with fail
              go_region_held3 (fun w' => Gr wr w')
                (first | assumption | exact Gr.drew _ | exact Gr.alloc (by assumption) _ | exact Gr.step (by assumption) (by assumption))
                (first
                 | (go_at_call 16; (with_reducible refine (sum_two (by first | exact heap_alloc_new _ _ | exact heap_alloc_drew _ _ | exact heap_alloc_at (by simp)) (bs_gr HBk.out (by assumption) (Nat.le_refl _)) (bs_gr HBr.out (by assumption) (Nat.le_refl _)) (gr_size (by assumption))).mono ?_); rw [HST.out, HS.out]; rintro e w' ⟨rfl, hb'⟩)
                 | (go_at_call 15; (with_reducible refine (of_g (bs_gr HB.out (by assumption) (Nat.le_refl _)) (gr_size (by assumption))).mono ?_); rw [HS.out]; rintro e w' ⟨rfl, hb'⟩)
                 | (go_at_call 15; (with_reducible refine (of_g (bs_gr HBk.out (by assumption) (Nat.le_refl _)) (gr_size (by assumption))).mono ?_); rw [HX.out]; rintro e w' ⟨rfl, hb'⟩)
                 | (go_at_call 15; (with_reducible refine (of_g (bs_gr HBr.out (by assumption) (Nat.le_refl _)) (gr_size (by assumption))).mono ?_); rw [HY.out]; rintro e w' ⟨rfl, hb'⟩)
                 | (go_at_call 18; (with_reducible refine (hJ.out _ _ (by omega)).mono ?_); rintro e w' ⟨rfl, rfl⟩)
                 | fail "no arm")
              all_goals (
                go_wp2_with fail
                go_roundw
                case rel => exact ⟨cap + 1, by omega, by go_num, Gr.step (by assumption) HW1.out⟩
                case measure => (simp [intOf] <;> omega))
            · rcases hgap with rfl | ⟨g, rfl⟩
              · exact absurd (hnone rfl) (by omega)
              · have HB := Lib.hid hB
                have HBk := Lib.hid hBk
                have HBr : Hid (Bs wr wr.heap.size ⟨some ⟨g, k, none⟩, r - k, cap - k⟩ (row.drop k)) := by
                  have := hBr
                  simp only [if_neg hck] at this
                  have e : (some (⟨g, 0, none⟩ : Addr)).map (·.add k) = some ⟨g, k, none⟩ := by
                    simp only [Option.map_some, Addr.add_lit, Nat.zero_add]
                  rw [e] at this
                  exact this
                clear hB hBk hBr hnone
                have i1 : (0 : Int) ≤ (k : Int) := by omega
                have i2 : (k : Int) ≤ (r : Int) := by omega
                have i3 : (r : Int) ≤ (cap : Int) := by omega
                have i4 : (k : Int) ≤ (cap : Int) := by omega
                have i5 : IntKind.i64.wrap ((r : Int) - (k : Int)) = (r : Int) - (k : Int) := IntWalk.i64_in _ (by omega)
                go_wp2_with fail
                go_region_held3 (fun w' => Gr wr w')
                  (first | assumption | exact Gr.drew _ | exact Gr.alloc (by assumption) _ | exact Gr.step (by assumption) (by assumption))
                  (first
                   | (go_at_call 16; (with_reducible refine (sum_two (by first | exact heap_alloc_new _ _ | exact heap_alloc_drew _ _ | exact heap_alloc_at (by simp)) (bs_gr HBk.out (by assumption) (Nat.le_refl _)) (bs_gr HBr.out (by assumption) (Nat.le_refl _)) (gr_size (by assumption))).mono ?_); rw [HST.out, HS.out]; rintro e w' ⟨rfl, hb'⟩)
                   | (go_at_call 15; (with_reducible refine (of_g (bs_gr HB.out (by assumption) (Nat.le_refl _)) (gr_size (by assumption))).mono ?_); rw [HS.out]; rintro e w' ⟨rfl, hb'⟩)
                   | (go_at_call 15; (with_reducible refine (of_g (bs_gr HBk.out (by assumption) (Nat.le_refl _)) (gr_size (by assumption))).mono ?_); rw [HX.out]; rintro e w' ⟨rfl, hb'⟩)
                   | (go_at_call 15; (with_reducible refine (of_g (bs_gr HBr.out (by assumption) (Nat.le_refl _)) (gr_size (by assumption))).mono ?_); rw [HY.out]; rintro e w' ⟨rfl, hb'⟩)
                   | (go_at_call 18; (with_reducible refine (hJ.out _ _ (by omega)).mono ?_); rintro e w' ⟨rfl, rfl⟩)
                   | fail "no arm")
                all_goals (
                  go_wp2_with fail
                  go_roundw
                  case rel => exact ⟨k + 1, by omega, by go_num, Gr.step (by assumption) HW1.out⟩
                  case measure => simp [intOf]; omega)
          · have HOWN2 := Lib.hid (ownsRow_below HOWN1.out hg2)
            have hg2' : Gr w wr := Gr.step hg2 hg1'
            have hbase : w.heap.size ≤ wr.heap.size := gr_size hg2'
            clear hg2
            have hy : ((r : Int) * 29 + 7) % 256 = (((r * 29 + 7) % 256 : Nat) : Int) := by omega
            have hy8 : (r * 29 + 7) % 256 < 256 := Nat.mod_lt _ (by decide)
            generalize hyy : (r * 29 + 7) % 256 = y at hy hy8
            clear hyy
            go_wp2_with (at_builtin; refine wpList_append_own _ rfl (.tmp 76) (.tmp 80) 24 rfl w.heap.size 5 i5 (.int .u8 0) 1 1 Try.underlying24 hi hz hs hby rfl (by decide) (.slice A r cap) r (bvs row) rfl (HOWN2.out.alloc _) ⟨wr.heap.size, 0, none⟩ 1 1 [.int .u8 y] rfl rfl ?d1 ?d2 ?d3 ?d4 ?d5 ?_)
            case d1 => exact cell_one_new _ _ _
            case d2 => intro u hu; rw [List.mem_singleton.1 hu]; rfl
            case d3 => unfold maxLen; omega
            case d4 => omega
            case d5 => rw [World.size_alloc]; omega
            intro v2 w2 hown2 hgr2 hv2
            have hg3 : Gr w w2 := by
              have h1 := hg2'.alloc (.cells #[.int .u8 y] 5)
              refine Below.grown h1 hgr2 (gr_size h1) (fun q hq => ?_)
              rcases HOWN2.out.2 with ⟨hv, _⟩ | ⟨g, cap', cur, hv, hgB, _⟩
              · rw [hv] at hq; simp [Value.ownBlock] at hq
              · rw [hv] at hq
                have : g = q := by simpa [Value.ownBlock] using hq
                omega
            obtain ⟨A2, cap2, hv⟩ : ∃ A2 cap2, v2 = .slice A2 (r + 1) cap2 := by
              rcases hown2.2 with ⟨_, h0⟩ | ⟨g, cap2, cur, hv, _⟩
              · omega
              · exact ⟨_, _, hv⟩
            subst hv
            have HOWN3 := Lib.hid hown2
            clear hown2 hgr2 hv2
            go_wp2_with fail
            go_roundw
            case rel =>
              refine ⟨r + 1, r + 1, A2, cap2, row ++ [y], by omega, by go_num, rfl, (by show _ = _; omega), ?_, ?_, hg3⟩
              · have e : bvs (row ++ [y]) = bvs row ++ [.int .u8 (y : Nat)] := by simp [bvs]
                rw [e]; exact HOWN3.out
              · intro z hz
                rcases List.mem_append.1 hz with h | h
                · exact hsm z h
                · rw [List.mem_singleton.1 h]; exact hy8
            case measure => simp [intOf]; omega
        · go_wp2_with fail
          all_goals (
            go_roundw
            case rel => exact ⟨n + 1, r, A, cap, row, by omega, by go_num, rfl, (by have := HR.out; show _ = _; omega), ownsRow_below HOWN1.out hg2, hsm, Gr.step hg2 hg1'⟩
            case measure => simp [intOf]; omega)
    · go_wp2_with fail
      go_loopw [5] (fun i wr' => ∃ k : Nat, 8 ≤ k ∧ k ≤ 15 ∧ i = .int .i64 k ∧ Gr w wr') (fun i _ => 15 - (intOf i).toNat)
      case atStart => exact ⟨8, by omega, by omega, rfl, hg⟩
      case round =>
        obtain ⟨k, hk1, hk2, rfl, hg2⟩ := hrel
        by_cases hk15 : k < 15
        · go_wp2_with fail
          refine (tells_nil _ _ _ _ (by omega) (by omega)).mono ?_
          rintro e w1 ⟨rfl, hg3⟩
          have hg3' : Gr w w1 := Gr.step hg3 hg2
          clear hg3
          go_wp2_with fail
          refine (tells_nil _ _ _ _ (by omega) (by omega)).mono ?_
          rintro e w2 ⟨rfl, hg4⟩
          have hg4' : Gr w w2 := Gr.step hg4 hg3'
          clear hg4
          go_wp2_with fail
          go_roundw
          case rel => exact ⟨k + 1, by omega, by omega, by go_num, hg4'⟩
          case measure => simp [intOf]; omega
        · go_wp2_with fail
          refine (join_79 _ _ (by omega)).mono ?_
          rintro e w' ⟨rfl, rfl⟩
          go_wp2_with fail
          refine (join_79 _ _ (by omega)).mono ?_
          rintro e w' ⟨rfl, rfl⟩
          go_wp2_with fail
          refine (awake1 _).mono ?_
          rintro e w1 ⟨rfl, hg3⟩
          go_wp2_with fail
          go_ret
          exact ⟨rfl, Gr.step hg3 hg2⟩
end Go.Proofs.Ytkdphgcbecldbaa
/- The disk as memory holds it. No program in sight. -/
namespace Go.Proofs.Ytkdphgcbecldbaa
open Go.RowKit

/-- outside of S the world is as it was -/
structure Kp (S : Nat → Prop) (w w' : World) : Prop where
  os : w'.os = w.os
  tape : w'.tape = w.tape
  output : w'.output = w.output
  size : w.heap.size ≤ w'.heap.size
  block : ∀ k, k < w.heap.size → ¬ S k → w'.heap[k]? = w.heap[k]?
theorem Kp.refl (S : Nat → Prop) (w : World) : Kp S w w := ⟨rfl, rfl, rfl, Nat.le_refl _, fun _ _ _ => rfl⟩
theorem Kp.of_gr {S : Nat → Prop} {w w' : World} (h : Gr w w') : Kp S w w' := ⟨h.os, h.tape, h.output, h.size, fun k hk _ => h.block k hk⟩
theorem Kp.trans {S T : Nat → Prop} {a b c : World} (h : Kp S a b) (k : Kp T b c) (hT : ∀ i, T i → S i ∨ a.heap.size ≤ i) : Kp S a c :=
  ⟨k.os.trans h.os, k.tape.trans h.tape, k.output.trans h.output, Nat.le_trans h.size k.size, fun i hi hS =>
    (k.block i (Nat.lt_of_lt_of_le hi h.size) (fun ht => (hT i ht).elim hS (by omega))).trans (h.block i hi hS)⟩
theorem Kp.mono {S T : Nat → Prop} {a b : World} (h : Kp S a b) (hT : ∀ i, S i → T i) : Kp T a b :=
  ⟨h.os, h.tape, h.output, h.size, fun i hi hn => h.block i hi fun hs => hn (hT i hs)⟩
theorem Kp.below {S : Nat → Prop} {a b : World} {B : Nat} (h : Kp S a b) (hS : ∀ i, S i → B ≤ i) (hB : B ≤ a.heap.size) : Below B a b :=
  ⟨h.os, h.tape, h.output, h.size, fun i hi => h.block i (by omega) fun hs => by have := hS i hs; omega⟩
theorem Kp.setCell {S : Nat → Prop} {a w : World} (h : Kp S a w) {p : Addr} (hp : S p.block ∨ a.heap.size ≤ p.block) (u : Value) : Kp S a (w.setCell p u) :=
  ⟨h.os, h.tape, h.output, by rw [show (w.setCell p u).heap.size = w.heap.size by simp [World.setCell]]; exact h.size, fun k hk hn =>
    (Below.heap_setCell w p u k (fun e => by subst e; rcases hp with hp | hp; exact hn hp; omega)).trans (h.block k hk hn)⟩
theorem Kp.setCells {S : Nat → Prop} {a : World} (b : Nat) (hp : S b ∨ a.heap.size ≤ b) : ∀ (vs : List Value) (o : Nat) (w : World), Kp S a w → Kp S a (w.setCells b o vs)
  | [], _, _, h => h
  | v :: r, o, w, h => by
    rw [World.setCells]
    exact Kp.setCells b hp r (o + 1) _ (h.setCell hp v)
theorem Kp.drew {S : Nat → Prop} {a w : World} (h : Kp S a w) : Kp S a w.drew := ⟨h.os, h.tape, h.output, h.size, h.block⟩
theorem Kp.alloc {S : Nat → Prop} {a w : World} (h : Kp S a w) (o : Obj) : Kp S a (w.alloc o) :=
  h.trans (Kp.of_gr (S := S) (Gr.at_alloc w o)) (fun _ hs => .inl hs)
theorem Kp.gr {S : Nat → Prop} {a w w' : World} (h : Kp S a w) (g : Gr w w') : Kp S a w' := h.trans (Kp.of_gr (S := S) g) (fun _ hs => .inl hs)
theorem Kp.cell {S : Nat → Prop} {a w : World} (h : Kp S a w) {p : Addr} (hp : p.block < a.heap.size) (hn : ¬ S p.block) : w.cell? p = a.cell? p := World.cell?_of_block (h.block _ hp hn)
theorem Kp.frozen {S : Nat → Prop} {a w : World} (h : Kp S a w) {p : Addr} (hp : p.block < a.heap.size) (hn : ¬ S p.block) : w.frozen? p = a.frozen? p := World.frozen?_of_block (h.block _ hp hn)

/-- a write that waits, as cells -/
def lc (e : Nat × List Nat) : List Value := .int .i64 (e.1 : Int) :: bvs e.2
def lrow (ws : List (Nat × List Nat)) : List Value := (ws.map lc).flatten
/-- a disk: where its parts lie, and what they hold -/
structure Dk where
  d : Nat
  bb : Nat
  hb : Nat
  base : Nat
  k : Nat
  tu : Int
  cr : Int
  ar : Int
  dn : Bool
  bl : Nat → List Nat
  hu : Nat → Bool
  wv : Value
  ws : List (Nat × List Nat)
def Dk.row (D : Dk) : List Value := [.int .i64 D.tu, .int .i64 D.cr, .int .i64 D.ar, .bool D.dn, .slice (some ⟨D.bb, 0, none⟩) D.k D.k, .slice (some ⟨D.hb, 0, none⟩) D.k D.k, D.wv]
/-- the disk's blocks -/
def Dk.fp (D : Dk) (b : Nat) : Prop := b = D.d ∨ b = D.bb ∨ b = D.hb ∨ D.wv.ownBlock = some b
structure Dsk (w : World) (D : Dk) : Prop where
  kpos : 1 ≤ D.k
  kle : D.k ≤ 4096
  row : w.rangeAt D.d 0 D.row
  rowT : w.there D.d 0 7
  bls : ∀ i, i < D.k → w.rangeAt D.bb (i * 256) (bvs (D.bl i))
  blT : w.there D.bb 0 (D.k * 256)
  bln : ∀ i, i < D.k → (D.bl i).length = 256 ∧ Small (D.bl i)
  hus : ∀ i, i < D.k → w.cell? ⟨D.hb, i, none⟩ = some (.bool (D.hu i))
  huT : w.there D.hb 0 D.k
  own : w.ownsRow D.base 95 257 D.wv D.ws.length (lrow D.ws)
  wsn : ∀ e, e ∈ D.ws → e.1 < D.k ∧ e.2.length = 256 ∧ Small e.2
  o1 : D.d ≠ D.bb
  o2 : D.d ≠ D.hb
  o3 : D.bb ≠ D.hb
  o4 : D.d < D.base
  o5 : D.bb < D.base
  o6 : D.hb < D.base
  o7 : D.base ≤ w.heap.size
  arm : 0 ≤ D.ar ∧ D.ar ≤ 9223372036854775807

theorem Dsk.own_ge {w : World} {D : Dk} (h : Dsk w D) {b : Nat} (hb : D.wv.ownBlock = some b) : D.base ≤ b ∧ b < w.heap.size := by
  rcases h.own.2 with ⟨hv, _⟩ | ⟨g, cap, cur, hv, hg, hh, _⟩
  · rw [hv] at hb; simp [Value.ownBlock] at hb
  · rw [hv] at hb
    have e : g = b := by simpa [Value.ownBlock] using hb
    subst e
    refine ⟨hg, ?_⟩
    rcases Nat.lt_or_ge g w.heap.size with hlt | hge
    · exact hlt
    · rw [Array.getElem?_eq_none hge] at hh; cases hh
theorem Dsk.fp_lt {w : World} {D : Dk} (h : Dsk w D) {b : Nat} (hb : D.fp b) : b < w.heap.size := by
  have := h.o4; have := h.o5; have := h.o6; have := h.o7
  rcases hb with rfl | rfl | rfl | hb
  · omega
  · omega
  · omega
  · exact (h.own_ge hb).2
/-- what happens elsewhere -/
theorem Dsk.keep {S : Nat → Prop} {w w' : World} {D : Dk} (h : Dsk w D) (hk : Kp S w w') (hS : ∀ b, D.fp b → ¬ S b) : Dsk w' D := by
  have d4 := h.o4; have d5 := h.o5; have d6 := h.o6; have d7 := h.o7
  have cd : ∀ i, w'.cell? ⟨D.d, i, none⟩ = w.cell? ⟨D.d, i, none⟩ := fun i => hk.cell (p := ⟨D.d, i, none⟩) (by simp only; omega) (hS _ (.inl rfl))
  have fd : ∀ i, w'.frozen? ⟨D.d, i, none⟩ = w.frozen? ⟨D.d, i, none⟩ := fun i => hk.frozen (p := ⟨D.d, i, none⟩) (by simp only; omega) (hS _ (.inl rfl))
  have cb : ∀ i, w'.cell? ⟨D.bb, i, none⟩ = w.cell? ⟨D.bb, i, none⟩ := fun i => hk.cell (p := ⟨D.bb, i, none⟩) (by simp only; omega) (hS _ (.inr (.inl rfl)))
  have fb : ∀ i, w'.frozen? ⟨D.bb, i, none⟩ = w.frozen? ⟨D.bb, i, none⟩ := fun i => hk.frozen (p := ⟨D.bb, i, none⟩) (by simp only; omega) (hS _ (.inr (.inl rfl)))
  have ch : ∀ i, w'.cell? ⟨D.hb, i, none⟩ = w.cell? ⟨D.hb, i, none⟩ := fun i => hk.cell (p := ⟨D.hb, i, none⟩) (by simp only; omega) (hS _ (.inr (.inr (.inl rfl))))
  have fh : ∀ i, w'.frozen? ⟨D.hb, i, none⟩ = w.frozen? ⟨D.hb, i, none⟩ := fun i => hk.frozen (p := ⟨D.hb, i, none⟩) (by simp only; omega) (hS _ (.inr (.inr (.inl rfl))))
  refine ⟨h.kpos, h.kle, fun j v hv => (cd _).trans (h.row j v hv), fun j hj => ?_, fun i hi j v hv => (cb _).trans (h.bls i hi j v hv), fun j hj => ?_, h.bln, fun i hi => (ch _).trans (h.hus i hi), fun j hj => ?_, ?_, h.wsn, h.o1, h.o2, h.o3, d4, d5, d6, Nat.le_trans d7 hk.size, h.arm⟩
  · rw [cd, fd]; exact h.rowT j hj
  · rw [cb, fb]; exact h.blT j hj
  · rw [ch, fh]; exact h.huT j hj
  · obtain ⟨hl, h1 | ⟨g, cap, cur, hv, hg, hh, hr⟩⟩ := h.own
    · exact ⟨hl, .inl h1⟩
    · have hlt := (h.own_ge (b := g) (by rw [hv]; rfl)).2
      exact ⟨hl, .inr ⟨g, cap, cur, hv, hg, (hk.block g hlt (hS _ (.inr (.inr (.inr (by rw [hv]; rfl)))))).trans hh, hr⟩⟩
theorem Dsk.gr {w w' : World} {D : Dk} (h : Dsk w D) (hg : Gr w w') : Dsk w' D := h.keep (Kp.of_gr (S := fun _ => False) hg) (fun _ _ hf => hf)

/-- one of the disk's own four counts is turned -/
theorem Dsk.put {w : World} {D D' : Dk} (h : Dsk w D) (j : Nat) (v : Value) (hj : j < 4) (hr : D'.row = D.row.set j v) (ha : 0 ≤ D'.ar ∧ D'.ar ≤ 9223372036854775807)
    (e : (D'.d, D'.bb, D'.hb, D'.base, D'.k, D'.bl, D'.hu, D'.wv, D'.ws) = (D.d, D.bb, D.hb, D.base, D.k, D.bl, D.hu, D.wv, D.ws)) : Dsk (w.setCell ⟨D.d, j, none⟩ v) D' := by
  simp only [Prod.mk.injEq] at e
  obtain ⟨e1, e2, e3, e4, e5, e6, e7, e8, e9⟩ := e
  have d4 := h.o4; have d5 := h.o5; have d6 := h.o6; have d7 := h.o7
  have co : ∀ b i, b ≠ D.d → (w.setCell ⟨D.d, j, none⟩ v).cell? ⟨b, i, none⟩ = w.cell? ⟨b, i, none⟩ := fun b i hb => World.cell?_setCell_other _ _ _ _ (by intro e; injection e with e; exact hb e.symm)
  have hcj : ∃ u, w.cell? ⟨D.d, j, none⟩ = some u := by
    have := (h.rowT j (by omega)).1
    rw [Nat.zero_add] at this
    exact Option.isSome_iff_exists.1 this
  obtain ⟨u, hu⟩ := hcj
  refine ⟨e5 ▸ h.kpos, e5 ▸ h.kle, ?_, ?_, ?_, ?_, ?_, ?_, ?_, ?_, ?_, ?_, ?_, ?_, ?_, ?_, ?_, ?_, ha⟩
  · rw [e1, hr]
    intro i x hx
    rw [Nat.zero_add]
    by_cases hij : i = j
    · subst hij
      have hlt : i < D.row.length := by show i < 7; omega
      rw [List.getElem?_set_self hlt] at hx
      injection hx with hx
      subst hx
      rw [World.cell?_setCell_same _ _ _ hu]
    · rw [List.getElem?_set_ne (Ne.symm hij)] at hx
      rw [World.cell?_setCell_other _ _ _ _ (by intro e; injection e with _ e; exact hij e.symm)]
      have := h.row i x hx
      rwa [Nat.zero_add] at this
  · rw [e1]
    intro i hi
    have := World.there_setCells h.rowT D.d j [v] i hi
    exact this
  · rw [e2, e5, e6]
    intro i hi
    intro j' x hx
    rw [co _ _ (Ne.symm h.o1)]
    exact h.bls i hi j' x hx
  · rw [e2, e5]
    intro i hi
    have := World.there_setCells h.blT D.d j [v] i hi
    exact this
  · rw [e5, e6]; exact h.bln
  · rw [e3, e5, e7]
    intro i hi
    rw [co _ _ (Ne.symm h.o2)]
    exact h.hus i hi
  · rw [e3, e5]
    intro i hi
    have := World.there_setCells h.huT D.d j [v] i hi
    exact this
  · rw [e4, e8, e9]
    obtain ⟨hl, h1 | ⟨g, cap, cur, hv, hg, hh, hr⟩⟩ := h.own
    · exact ⟨hl, .inl h1⟩
    · exact ⟨hl, .inr ⟨g, cap, cur, hv, hg, (Below.heap_setCell w _ v g (by simp only; omega)).trans hh, hr⟩⟩
  · rw [e5, e9]; exact h.wsn
  · rw [e1, e2]; exact h.o1
  · rw [e1, e3]; exact h.o2
  · rw [e2, e3]; exact h.o3
  · rw [e1, e4]; exact d4
  · rw [e2, e4]; exact d5
  · rw [e3, e4]; exact d6
  · rw [e4]; simpa [World.setCell] using d7
end Go.Proofs.Ytkdphgcbecldbaa
