/- Texts of the proof, one behind the other: MixF, KitB. -/
import Derived.Test.YtkdphgcbecldbaaJc
import Derived.Deep.RegionHeld3
/- MixParts: sums joined are the sum of both, however they are parted; any three slices. -/
namespace Go.Proofs.Ytkdphgcbecldbaa
open Go.RowKit MixM

def joinN (a b m : Nat) : Nat := if m < 1 then a else shN (8 * m) a ^^^ b
theorem join_nat (a b m : Nat) (w : World) (ha : a < 4294967296) (hb : b < 4294967296) (hm : m ≤ 9223372036854775807) :
    Calls Try.prog 18 #[.int .u32 a, .int .u32 b, .int .i64 m] w fun e w' => e = .returned (.int .u32 ((joinN a b m : Nat) : Int)) ∧ w = w' := by
  unfold joinN
  by_cases h : m < 1
  · rw [if_pos h]; exact join_low a b m w (by omega)
  · rw [if_neg h]; exact join_any a b m w ha hb (by omega) hm
theorem joinN_sum (l r : List Nat) : joinN (sum l) (sum r) r.length = sum (l ++ r) := by
  unfold joinN
  rw [sum_append]
  by_cases h : r.length < 1
  · have : r = [] := List.eq_nil_of_length_eq_zero (by omega)
    subst this
    rw [if_pos h]
    show sum l = shN 0 (sum l) ^^^ 0
    rw [Nat.xor_zero]; rfl
  · rw [if_neg h]
theorem joinN_zero (l : List Nat) : joinN 0 (sum l) l.length = sum l := by
  have := joinN_sum [] l
  rwa [List.nil_append, show sum [] = 0 from rfl] at this
/-- three slices in a new block, as a row of three -/
theorem rs_three {w : World} {B : Nat} {A1 A2 A3 : Option Addr} {n1 n2 n3 c1 c2 c3 : Nat} {l1 l2 l3 : List Nat} (h1 : Bs w B ⟨A1, n1, c1⟩ l1) (h2 : Bs w B ⟨A2, n2, c2⟩ l2) (h3 : Bs w B ⟨A3, n3, c3⟩ l3) (hB : B ≤ w.heap.size) (T : TypeId) :
    Rs (w.alloc (.cells #[.slice A1 n1 c1, .slice A2 n2 c2, .slice A3 n3 c3] T)) (w.heap.size + 1) ⟨some ⟨w.heap.size, 0, none⟩, 3, 3⟩ [⟨A1, n1, c1⟩, ⟨A2, n2, c2⟩, ⟨A3, n3, c3⟩] [l1, l2, l3] := by
  have hb : Below w.heap.size w (w.alloc (.cells #[.slice A1 n1 c1, .slice A2 n2 c2, .slice A3 n3 c3] T)) := (Below.refl _ _).alloc (Nat.le_refl _) _
  refine ⟨rfl, rfl, ⟨Nat.le_refl _, by simp only; omega, fun _ => ⟨w.heap.size, 0, rfl, by omega, fun i hi => ?_⟩⟩, fun i hi => ?_⟩
  · simp only at hi
    rw [Nat.zero_add, cell_of_row _ w.heap.size i _ _ _ (heap_alloc_new w _)]
    match i, hi with
    | 0, _ | 1, _ | 2, _ => rfl
  · simp only at hi
    match i, hi with
    | 0, _ => exact (h1.below hb hB).more (by omega)
    | 1, _ => exact (h2.below hb hB).more (by omega)
    | 2, _ => exact (h3.below hb hB).more (by omega)
theorem sum_three {w : World} {B : Nat} {A1 A2 A3 : Option Addr} {n1 n2 n3 c1 c2 c3 : Nat} {l1 l2 l3 : List Nat} (h1 : Bs w B ⟨A1, n1, c1⟩ l1) (h2 : Bs w B ⟨A2, n2, c2⟩ l2) (h3 : Bs w B ⟨A3, n3, c3⟩ l3) (hB : B ≤ w.heap.size) (T : TypeId) :
    Calls Try.prog 16 #[.slice (some ⟨w.heap.size, 0, none⟩) 3 3] (w.alloc (.cells #[.slice A1 n1 c1, .slice A2 n2 c2, .slice A3 n3 c3] T)) fun e w' => e = .returned (.int .u32 ((sum (l1 ++ l2 ++ l3) : Nat) : Int)) ∧ Gr (w.alloc (.cells #[.slice A1 n1 c1, .slice A2 n2 c2, .slice A3 n3 c3] T)) w' := by
  have h := sum_any _ 3 3 _ _ (w.alloc (.cells #[.slice A1 n1 c1, .slice A2 n2 c2, .slice A3 n3 c3] T)) (by rw [World.size_alloc]; exact rs_three h1 h2 h3 hB T)
  have e : [l1, l2, l3].flatten = l1 ++ l2 ++ l3 := by simp
  rw [e] at h
  exact h
theorem sum_oneG {A : Option Addr} {n c : Nat} {l : List Nat} {B : Nat} (w : World) (h : Bs w B ⟨A, n, c⟩ l) (hB : B ≤ w.heap.size) (T : TypeId) :
    Calls Try.prog 16 #[.slice (some ⟨w.heap.size, 0, none⟩) 1 1] (w.alloc (.cells #[.slice A n c] T)) fun e w' => e = .returned (.int .u32 ((sum l : Nat) : Int)) ∧ Gr (w.alloc (.cells #[.slice A n c] T)) w' := by
  have h1 := sum_one w h hB T
  exact h1.mono fun e w' ⟨he, hb⟩ => ⟨he, by unfold Gr; rw [World.size_alloc]; exact hb⟩

set_option maxRecDepth 100000 in
set_option maxHeartbeats 1000000 in
theorem mixparts_any (A1 A2 A3 : Option Addr) (n1 n2 n3 c1 c2 c3 : Nat) (l1 l2 l3 : List Nat) (w : World) (h1 : Bs w w.heap.size ⟨A1, n1, c1⟩ l1) (h2 : Bs w w.heap.size ⟨A2, n2, c2⟩ l2) (h3 : Bs w w.heap.size ⟨A3, n3, c3⟩ l3)
    (hsum : n1 + n2 + n3 ≤ 9223372036854775807) :
    Calls Try.prog 6 #[.slice A1 n1 c1, .slice A2 n2 c2, .slice A3 n3 c3] w fun e w' => e = .returned (.bool true) ∧ Gr w w' := by
  have hl1 : n1 = l1.length := h1.1
  have hl2 : n2 = l2.length := h2.1
  have hl3 : n3 = l3.length := h3.1
  have b1 := sum_lt h1.2.1
  have b2 := sum_lt h2.2.1
  have b3 := sum_lt h3.2.1
  have b12 : sum (l1 ++ l2) < 4294967296 := sum_lt fun x hx => (List.mem_append.1 hx).elim (h1.2.1 x) (h2.2.1 x)
  have b23 : sum (l2 ++ l3) < 4294967296 := sum_lt fun x hx => (List.mem_append.1 hx).elim (h2.2.1 x) (h3.2.1 x)
  have HJ1 : Hid (∀ W, Calls Try.prog 18 #[.int .u32 (sum l1 : Nat), .int .u32 (sum l2 : Nat), .int .i64 n2] W fun e w' => e = .returned (.int .u32 ((sum (l1 ++ l2) : Nat) : Int)) ∧ W = w') := fun W => by
    have := join_nat (sum l1) (sum l2) n2 W b1 b2 (by omega)
    rwa [hl2, joinN_sum, ← hl2] at this
  have HJ2 : Hid (∀ W, Calls Try.prog 18 #[.int .u32 (sum (l1 ++ l2) : Nat), .int .u32 (sum l3 : Nat), .int .i64 n3] W fun e w' => e = .returned (.int .u32 ((sum (l1 ++ l2 ++ l3) : Nat) : Int)) ∧ W = w') := fun W => by
    have := join_nat (sum (l1 ++ l2)) (sum l3) n3 W b12 b3 (by omega)
    rwa [hl3, joinN_sum, ← hl3] at this
  have HJ3 : Hid (∀ W, Calls Try.prog 18 #[.int .u32 (sum l2 : Nat), .int .u32 (sum l3 : Nat), .int .i64 n3] W fun e w' => e = .returned (.int .u32 ((sum (l2 ++ l3) : Nat) : Int)) ∧ W = w') := fun W => by
    have := join_nat (sum l2) (sum l3) n3 W b2 b3 (by omega)
    rwa [hl3, joinN_sum, ← hl3] at this
  have HJ4 : Hid (∀ W, Calls Try.prog 18 #[.int .u32 (sum l1 : Nat), .int .u32 (sum (l2 ++ l3) : Nat), .int .i64 ((n2 : Int) + (n3 : Int))] W fun e w' => e = .returned (.int .u32 ((sum (l1 ++ l2 ++ l3) : Nat) : Int)) ∧ W = w') := fun W => by
    have := join_nat (sum l1) (sum (l2 ++ l3)) (n2 + n3) W b1 b23 (by omega)
    have e : n2 + n3 = (l2 ++ l3).length := by rw [List.length_append, hl2, hl3]
    rw [e, joinN_sum, ← e, ← List.append_assoc] at this
    exact this
  have HJ5 : Hid (∀ W, Calls Try.prog 18 #[.int .u32 (sum l1 : Nat), .int .u32 0, .int .i64 0] W fun e w' => e = .returned (.int .u32 ((sum l1 : Nat) : Int)) ∧ W = w') := fun W => join_low (sum l1) 0 0 W (by decide)
  have HJ6 : Hid (∀ W, Calls Try.prog 18 #[.int .u32 0, .int .u32 (sum l1 : Nat), .int .i64 n1] W fun e w' => e = .returned (.int .u32 ((sum l1 : Nat) : Int)) ∧ W = w') := fun W => by
    have := join_nat 0 (sum l1) n1 W (by decide) b1 (by omega)
    rwa [hl1, joinN_zero, ← hl1] at this
  have hs1 : n1 ≤ c1 ∧ c1 ≤ 9223372036854775807 := ⟨h1.2.2.1, h1.2.2.2.1⟩
  have HS1 : Hid (∀ W, Gr w W → Bs W w.heap.size ⟨A1, n1, c1⟩ l1) := fun W hW => bs_gr h1 hW (Nat.le_refl _)
  have HS2 : Hid (∀ W, Gr w W → Bs W w.heap.size ⟨A2, n2, c2⟩ l2) := fun W hW => bs_gr h2 hW (Nat.le_refl _)
  have HS3 : Hid (∀ W, Gr w W → Bs W w.heap.size ⟨A3, n3, c3⟩ l3) := fun W hW => bs_gr h3 hW (Nat.le_refl _)
  clear h1 h2 h3 hl1 hl2 hl3 b12 b23 hs1
  generalize hx : sum l1 = x at *
  generalize hy : sum l2 = y at *
  generalize hz : sum l3 = z at *
  generalize hp : sum (l1 ++ l2) = p at *
  generalize hq : sum (l2 ++ l3) = q at *
  generalize hs : sum (l1 ++ l2 ++ l3) = s at *
  have HX := Lib.hid hx
  have HY := Lib.hid hy
  have HZ := Lib.hid hz
  have HSS := Lib.hid hs
  clear hx hy hz hp hq hs
  go_enter Try.func6, Try.ntmps6
  go_wp2_with fail
  refine (awake1 _).mono ?_
  rintro e w1 ⟨rfl, hg1⟩
  by_cases hbig : 20000 < n1 + n2 + n3
  · go_wp2_with fail
    go_ret
    exact ⟨rfl, hg1⟩
  · go_wp2_with fail
    refine (sum_oneG _ (HS1.out _ hg1) (gr_size hg1) _).mono ?_
    rintro e w2 ⟨rfl, hg2⟩
    have hg2' : Gr w w2 := Gr.step hg2 (hg1.alloc _)
    clear hg2
    rw [HX.out]
    go_wp2_with fail
    refine (sum_oneG _ (HS2.out _ hg2') (gr_size hg2') _).mono ?_
    rintro e w3 ⟨rfl, hg3⟩
    have hg3' : Gr w w3 := Gr.step hg3 (hg2'.alloc _)
    clear hg3
    rw [HY.out]
    go_wp2_with fail
    refine (sum_oneG _ (HS3.out _ hg3') (gr_size hg3') _).mono ?_
    rintro e w4 ⟨rfl, hg4⟩
    have hg4' : Gr w w4 := Gr.step hg4 (hg3'.alloc _)
    clear hg4
    rw [HZ.out]
    go_wp2_with fail
    refine (sum_three (HS1.out _ hg4') (HS2.out _ hg4') (HS3.out _ hg4') (gr_size hg4') _).mono ?_
    rintro e w5 ⟨rfl, hg5⟩
    have hg5' : Gr w w5 := Gr.step hg5 (hg4'.alloc _)
    clear hg5
    rw [HSS.out]
    go_wp2_with fail
    refine (HJ1.out _).mono ?_
    rintro e w' ⟨rfl, rfl⟩
    go_wp2_with fail
    refine (HJ2.out _).mono ?_
    rintro e w' ⟨rfl, rfl⟩
    go_wp2_with fail
    refine (HJ3.out _).mono ?_
    rintro e w' ⟨rfl, rfl⟩
    go_wp2_with fail
    refine (HJ4.out _).mono ?_
    rintro e w' ⟨rfl, rfl⟩
    go_wp2_with fail
    refine (sum_nil _).mono ?_
    rintro e w6 ⟨rfl, hg6⟩
    have hg6' : Gr w w6 := Gr.step hg6 hg5'
    clear hg6
    go_wp2_with fail
    refine (HJ5.out _).mono ?_
    rintro e w' ⟨rfl, rfl⟩
    go_wp2_with fail
    refine (sum_nil _).mono ?_
    rintro e w7 ⟨rfl, hg7⟩
    have hg7' : Gr w w7 := Gr.step hg7 hg6'
    clear hg7
    go_wp2_with fail
    refine (HJ6.out _).mono ?_
    rintro e w' ⟨rfl, rfl⟩
    go_wp2_with fail
    go_ret
    exact ⟨rfl, hg7'⟩
end Go.Proofs.Ytkdphgcbecldbaa
/- Walks of limpetkit's LentRows and KeptRows. -/
namespace Go.Proofs.Ytkdphgcbecldbaa
open Go.RowKit

/-- bytes that were lent, at block g -/
def lentV (g : Nat) (l : List Nat) : Value := .slice (some ⟨g, 0, none⟩) l.length (l.length + 12)
theorem ownsRow_below {w w' : World} {base : Nat} {e : TypeId} {size : Nat} {v : Value} {n : Nat} {xs : List Value} (h : w.ownsRow base e size v n xs) (hb : Below w.heap.size w w') : w'.ownsRow base e size v n xs := by
  obtain ⟨h1, h2⟩ := h
  refine ⟨h1, ?_⟩
  rcases h2 with h2 | ⟨g, cap, cur, hv, hg, hh, r⟩
  · exact Or.inl h2
  · refine Or.inr ⟨g, cap, cur, hv, hg, ?_, r⟩
    rw [hb.block g]
    · exact hh
    · rcases Nat.lt_or_ge g w.heap.size with hlt | hge
      · exact hlt
      · rw [Array.getElem?_eq_none hge] at hh; cases hh
theorem own_ne {w : World} {base : Nat} {e : TypeId} {size n : Nat} {v : Value} {xs : List Value} (h : w.ownsRow base e size v n xs) {g : Nat} {t : TypeId} {cs : Array Value} (hg : Blk w g t cs) (hne : e ≠ t) : some g ≠ v.ownBlock := by
  rcases h.2 with ⟨rfl, _⟩ | ⟨g', cap, cur, rfl, _, hh, _⟩
  · simp [Value.ownBlock]
  · intro he
    have : g = g' := by simpa [Value.ownBlock] using he
    subst this
    unfold Blk at hg
    rw [hg] at hh
    injection hh with hh
    injection hh with _ ht
    exact hne ht.symm
theorem Blk.grown {w w' : World} {g : Nat} {t : TypeId} {cs : Array Value} {row : Option Nat} (h : Blk w g t cs) (hb : w.grownBy w' row) (hg : some g ≠ row) : Blk w' g t cs := (hb.block g h.lt hg).trans h
theorem Blk.alloc {w : World} {g : Nat} {t : TypeId} {cs : Array Value} (h : Blk w g t cs) (o : Obj) : Blk (w.alloc o) g t cs := (Below.heap_alloc w o g h.lt).trans h

/-- the blocks gs hold the bytes ls, and marks behind them -/
def LentAt (w : World) (B : Nat) (gs : List Nat) (ls : List (List Nat)) : Prop :=
  ∀ i, i < gs.length → B ≤ gs.getD i 0 ∧ Blk w (gs.getD i 0) 5 (bvs (ls.getD i [] ++ marks)).toArray
theorem LentAt.keep {w w' : World} {B : Nat} {gs : List Nat} {ls : List (List Nat)} (h : LentAt w B gs ls) (hk : ∀ g cs, Blk w g 5 cs → Blk w' g 5 cs) : LentAt w' B gs ls :=
  fun i hi => ⟨(h i hi).1, hk _ _ (h i hi).2⟩
theorem LentAt.snoc {w : World} {B g : Nat} {gs : List Nat} {ls : List (List Nat)} (h : LentAt w B gs ls) (hB : B ≤ g) (hg : Blk w g 5 (bvs (ls.getD gs.length [] ++ marks)).toArray) : LentAt w B (gs ++ [g]) ls := by
  intro i hi
  simp only [List.length_append, List.length_cons, List.length_nil] at hi
  rcases Nat.lt_or_ge i gs.length with hlt | hge
  · have e : (gs ++ [g]).getD i 0 = gs.getD i 0 := by rw [List.getD_eq_getElem?_getD, List.getElem?_append_left hlt, ← List.getD_eq_getElem?_getD]
    rw [e]; exact h i hlt
  · have hi2 : i = gs.length := by omega
    subst hi2
    have e : (gs ++ [g]).getD gs.length 0 = g := by rw [List.getD_eq_getElem?_getD, List.getElem?_append_right (Nat.le_refl _)]; simp
    rw [e]; exact ⟨hB, hg⟩
theorem zip_snoc (gs : List Nat) (g : Nat) (ls : List (List Nat)) (h : gs.length < ls.length) : List.zipWith lentV (gs ++ [g]) ls = List.zipWith lentV gs ls ++ [lentV g (ls.getD gs.length [])] := by
  induction gs generalizing ls with
  | nil => cases ls with
    | nil => simp at h
    | cons l ls => rfl
  | cons x gs ih => cases ls with
    | nil => simp at h
    | cons l ls =>
      have := ih ls (by simpa using h)
      simp only [List.cons_append, List.zipWith_cons_cons, this, List.length_cons, List.getD_cons_succ]
theorem info24 : (Try.prog.info? 24).map (fun i => (i.zero, i.size, i.bytes)) = some (some (.slice none 0 0), 1, 24) := by kernel_rfl

set_option maxRecDepth 100000 in
set_option maxHeartbeats 1000000 in
/-- rows that are lent -/
theorem lentrows_any (A : Option Addr) (n c : Nat) (ss : List Sl) (ls : List (List Nat)) (w : World) (h : Rs w w.heap.size ⟨A, n, c⟩ ss ls) (hn : n ≤ 1000000)
    (hs : ∀ i, i < n → (ls.getD i []).length ≤ 1000000) (h0 : ∀ i, i < n → (ss.getD i ⟨none, 0, 0⟩).a = none → (ss.getD i ⟨none, 0, 0⟩).c = 0) :
    Calls Try.prog 12 #[.slice A n c] w fun e w' => ∃ (v : Value) (gs : List Nat), e = .returned v ∧ gs.length = n ∧ w'.ownsRow w.heap.size 24 1 v n (List.zipWith lentV gs ls) ∧ LentAt w' w.heap.size gs ls ∧ Below w.heap.size w w' := by
  obtain ⟨i24, hi, hz, hsz, hby⟩ := info_parts info24
  have hnc : n ≤ c := h.2.2.1.1
  have hcm : c ≤ 9223372036854775807 := h.2.2.1.2.1
  have hll : ls.length = n := by rw [← h.2.1, ← h.1]
  have HLL := Lib.hid hll
  have H := Lib.hid h
  have HS := Lib.hid hs
  have H0 := Lib.hid h0
  clear h hs h0 hll
  go_enter Try.func12, Try.ntmps12
  go_wp2_with fail
  go_loopw [3, 4] (fun v i wr => ∃ (k : Nat) (gs : List Nat), k ≤ n ∧ i = .int .i64 k ∧ Hid (gs.length = k) ∧ wr.ownsRow w.heap.size 24 1 v k (List.zipWith lentV gs ls) ∧ LentAt wr w.heap.size gs ls ∧ Below w.heap.size w wr) (fun _ i _ => n - (intOf i).toNat)
  case atStart => exact ⟨0, [], by omega, rfl, rfl, ⟨rfl, .inl ⟨rfl, rfl⟩⟩, fun i hi => absurd hi (by simp), Below.refl _ _⟩
  case round =>
    obtain ⟨k, gs, hk, rfl, HG, hown, hlent, hb⟩ := hrel
    by_cases hkn : k < n
    · have H1 := H.out.below hb (Nat.le_refl _)
      obtain ⟨b, o, hA, hbB, hcell⟩ := H1.2.2.1.2.2 (by omega : 0 < n)
      have hck := hcell k hkn
      have hRk := H1.2.2.2 k hkn
      have hsk := HS.out k hkn
      have h0k := H0.out k hkn
      simp only at hA hck
      subst hA
      generalize hl : ls.getD k [] = l at hRk hsk
      generalize ss.getD k ⟨none, 0, 0⟩ = s at hRk hck h0k
      obtain ⟨A', n', c'⟩ := s
      simp only [Sl.v] at hck h0k
      have hn' : n' = l.length := hRk.1
      subst hn'
      have HR := Lib.hid hRk
      have HL := Lib.hid hl
      have H0k := Lib.hid h0k
      have hown' := Lib.hid hown
      clear H1 hRk hcell hl h0k hown
      go_wp2_with fail
      refine (lent_any A' l.length c' w.heap.size l _ HR.out hb.size H0k.out hsk).mono ?_
      rintro e w1 ⟨g, rfl, hgB, hblk, hb1⟩
      have hown1 := ownsRow_below hown'.out hb1
      have hlent1 : LentAt w1 w.heap.size gs ls := hlent.keep fun g cs hg => hg.below hb1 hg.lt
      have hbw1 : Below w.heap.size w w1 := hb.trans (hb1.mono hb.size)
      have hblk' : Blk w1 g 5 (bvs (ls.getD gs.length [] ++ marks)).toArray := by rw [HG.out, HL.out]; exact hblk
      have hl2 : Hid (LentAt w1 w.heap.size (gs ++ [g]) ls) := hlent1.snoc (Nat.le_trans hb.size hgB) hblk'
      have hown2 := Lib.hid hown1
      clear hblk hown1 hlent1 hblk' hlent hown'
      go_wp2_with (at_builtin; refine wpList_append_own _ rfl (.tmp 11) (.tmp 17) 22 rfl w.heap.size 24 i24 (.slice none 0 0) 1 24 Try.underlying22 hi hz hsz hby rfl (by decide) u3 k _ rfl (hown2.out.alloc _) ⟨w1.heap.size, 0, none⟩ 1 1 [.slice (some ⟨g, 0, none⟩) l.length (l.length + 12)] rfl rfl ?d1 ?d2 ?d3 ?d4 ?d5 ?_)
      case d1 => exact cell_one_new _ _ _
      case d2 => intro u hu; rw [List.mem_singleton.1 hu]; rfl
      case d3 => unfold maxLen; omega
      case d4 => omega
      case d5 => rw [World.size_alloc]; have := hbw1.size; omega
      intro v' w3 hown3 hg3 _
      have hb3 : Below w.heap.size w w3 := (hbw1.alloc hbw1.size _).grown hg3 (by rw [World.size_alloc]; have := hbw1.size; omega) (fun q hq => by
        rcases hown2.out.2 with ⟨rfl, _⟩ | ⟨g', cap, cur, rfl, hgg, _⟩
        · simp [Value.ownBlock] at hq
        · have : g' = q := by simpa [Value.ownBlock] using hq
          omega)
      have hl3 : LentAt w3 w.heap.size (gs ++ [g]) ls := hl2.out.keep fun g cs hg => (hg.alloc _).grown hg3 (own_ne hown2.out hg (by decide))
      have hown3' := Lib.hid hown3
      clear hown3
      go_wp2_with fail
      go_roundw
      case rel =>
        refine ⟨k + 1, gs ++ [g], by omega, by go_num, by show _ = _; rw [List.length_append, HG.out]; rfl, ?_, hl3, hb3⟩
        have hkl : gs.length < ls.length := by rw [HLL.out, HG.out]; exact hkn
        have e := zip_snoc gs g ls hkl
        rw [HG.out, HL.out] at e
        rw [e]
        exact hown3'.out
      case measure => simp [intOf]; omega
    · obtain rfl : k = n := by omega
      go_wp2_with fail
      go_ret
      exact ⟨u3, gs, rfl, HG.out, hown, hlent, hb⟩

theorem LentAt.below {w w' : World} {B B' : Nat} {gs : List Nat} {ls : List (List Nat)} (h : LentAt w B gs ls) (hb : Below B' w w') (hB : w.heap.size ≤ B') : LentAt w' B gs ls :=
  h.keep fun _ _ hg => hg.below hb (Nat.lt_of_lt_of_le hg.lt hB)
/-- what a row of lent bytes reads as: a slice of slices -/
def InAt (w : World) (s : Sl) (gs : List Nat) (ls : List (List Nat)) : Prop :=
  s.n = gs.length ∧ gs.length = ls.length ∧ Lies w w.heap.size s (fun i => lentV (gs.getD i 0) (ls.getD i [])) ∧ LentAt w 0 gs ls
theorem InAt.below {w w' : World} {s : Sl} {gs : List Nat} {ls : List (List Nat)} (h : InAt w s gs ls) (hb : Below w.heap.size w w') : InAt w' s gs ls :=
  ⟨h.1, h.2.1, (h.2.2.1.below hb (Nat.le_refl _)).more hb.size, h.2.2.2.below hb (Nat.le_refl _)⟩
theorem InAt.drewN {w : World} {s : Sl} {gs : List Nat} {ls : List (List Nat)} (h : InAt w s gs ls) (n : Nat) : InAt (w.drewN n) s gs ls := h
/-- the value that lentrows hands back, as a slice -/
theorem inAt_of {w : World} {B n : Nat} {v : Value} {gs : List Nat} {ls : List (List Nat)} (ho : w.ownsRow B 24 1 v n (List.zipWith lentV gs ls)) (hg : gs.length = n) (hl : ls.length = n) (hb : LentAt w B gs ls) :
    ∃ s : Sl, v = s.v ∧ s.n = n ∧ InAt w s gs ls := by
  have h0 : LentAt w 0 gs ls := fun i hi => ⟨Nat.zero_le _, (hb i hi).2⟩
  rcases ho.2 with ⟨rfl, rfl⟩ | ⟨g, cap, cur, rfl, hgB, hh, hc1, hc2, hcs, htk⟩
  · exact ⟨⟨none, 0, 0⟩, rfl, rfl, hg.symm, by rw [hg, hl], ⟨Nat.le_refl _, by simp, fun h => absurd h (by simp)⟩, h0⟩
  · refine ⟨⟨some ⟨g, 0, none⟩, n, cap⟩, rfl, rfl, hg.symm, by rw [hg, hl], ⟨hc1, by unfold maxLen at hc2; exact hc2, fun _ => ⟨g, 0, rfl, ?_, fun i hi => ?_⟩⟩, h0⟩
    · rcases Nat.lt_or_ge g w.heap.size with hlt | hge
      · exact hlt
      · rw [Array.getElem?_eq_none hge] at hh; cases hh
    · simp only at hi
      rw [cell_of_row w g (0 + i) cur 24 (0, 0) hh, Nat.zero_add, ← Array.getElem?_toList]
      have h1 : (cur.toList.take (n * 1))[i]? = cur.toList[i]? := by rw [List.getElem?_take, if_pos (by omega)]
      rw [← h1, htk, List.getElem?_zipWith]
      have hi1 : i < gs.length := by omega
      have hi2 : i < ls.length := by omega
      simp only [List.getElem?_eq_getElem hi1, List.getElem?_eq_getElem hi2, List.getD_eq_getElem?_getD, Option.getD_some]
/-- lent bytes read as the bytes -/
theorem LentAt.bs {w : World} {B : Nat} {gs : List Nat} {ls : List (List Nat)} (h : LentAt w B gs ls) (i : Nat) (hi : i < gs.length) (hs : Small (ls.getD i [])) (hsz : (ls.getD i []).length ≤ 1000000) :
    Bs w w.heap.size ⟨some ⟨gs.getD i 0, 0, none⟩, (ls.getD i []).length, (ls.getD i []).length + 12⟩ (ls.getD i []) := by
  have hb := (h i hi).2
  refine ⟨rfl, hs, Nat.le_add_right _ _, by simp only; omega, fun _ => ⟨gs.getD i 0, 0, rfl, hb.lt, fun j hj => ?_⟩⟩
  simp only at hj
  rw [Nat.zero_add, blk_bvs hb j (by rw [List.length_append]; omega), List.getD_eq_getElem?_getD, List.getElem?_append_left hj, ← List.getD_eq_getElem?_getD]
  rfl

set_option maxRecDepth 100000 in
set_option maxHeartbeats 1000000 in
/-- rows that were lent are as they were -/
theorem keptrows_any (Ai A : Option Addr) (n ci c B : Nat) (gs : List Nat) (ss : List Sl) (ls : List (List Nat)) (w : World) (hin : InAt w ⟨Ai, n, ci⟩ gs ls) (h : Rs w B ⟨A, n, c⟩ ss ls)
    (hs : ∀ i, i < n → (ls.getD i []).length ≤ 1000000) :
    Calls Try.prog 20 #[.slice Ai n ci, .slice A n c] w fun e w' => e = .returned (.bool true) ∧ ∃ m, w' = w.drewN m := by
  have hnc : n ≤ c := h.2.2.1.1
  have hcm : c ≤ 9223372036854775807 := h.2.2.1.2.1
  have H := Lib.hid h
  have HS := Lib.hid hs
  have HI := Lib.hid hin
  clear h hs hin
  go_enter Try.func20, Try.ntmps20
  go_wp2_with fail
  go_loopw [5] (fun i wr => ∃ k m : Nat, k ≤ n ∧ i = .int .i64 k ∧ wr = w.drewN m) (fun i _ => n - (intOf i).toNat)
  case atStart => exact ⟨0, 0, by omega, rfl, rfl⟩
  case round =>
    obtain ⟨k, m, hk, rfl, rfl⟩ := hrel
    by_cases hkn : k < n
    · obtain ⟨b, o, hA, _, hcell⟩ := H.out.2.2.1.2.2 (by omega : 0 < n)
      obtain ⟨b2, o2, hA2, _, hcell2⟩ := HI.out.2.2.1.2.2 (by omega : 0 < n)
      have hck : (w.drewN m).cell? ⟨b, o + k, none⟩ = some (ss.getD k ⟨none, 0, 0⟩).v := hcell k hkn
      have hck2 : (w.drewN m).cell? ⟨b2, o2 + k, none⟩ = some (lentV (gs.getD k 0) (ls.getD k [])) := hcell2 k hkn
      have hRk : Bs (w.drewN m) B _ _ := H.out.2.2.2 k hkn
      have hsk := HS.out k hkn
      have hbk : Blk (w.drewN m) (gs.getD k 0) 5 (bvs (ls.getD k [] ++ marks)).toArray := (HI.out.2.2.2 k (by have := HI.out.1; simp only at this; omega)).2
      simp only at hA hA2
      subst hA
      subst hA2
      generalize ls.getD k [] = l at *
      generalize gs.getD k 0 = g at *
      generalize ss.getD k ⟨none, 0, 0⟩ = s at *
      obtain ⟨A', n', c'⟩ := s
      have hn' : n' = l.length := hRk.1
      subst hn'
      simp only [Sl.v] at hck
      simp only [lentV] at hck2
      have HR := Lib.hid hRk
      have HBk := Lib.hid hbk
      clear hRk hbk hcell hcell2
      generalize hW : w.drewN m = W at *
      have HW := Lib.hid hW
      clear hW
      have HK : Hid (∀ p, Calls Try.prog 51 #[.slice (some ⟨g, 0, none⟩) l.length (l.length + 12), .slice A' l.length c'] (W.drewN p) fun e w' => e = .returned (.bool true) ∧ ∃ m, w' = (W.drewN p).drewN m) :=
        fun p => kept_any A' g l.length c' B l (W.drewN p) HR.out HBk.out hsk
      clear HR HBk
      go_wp2_with fail
      go_quiet ((go_at_call 51; exact Calls.quiet_of (HK.out _)))
      go_wp2_with fail
      go_roundw
      case rel => exact ⟨k + 1, m + nq, by omega, by go_num, by rw [← HW.out, World.drewN_drewN]⟩
      case measure => simp [intOf]; omega
    · obtain rfl : k = n := by omega
      go_wp2_with fail
      go_ret
      exact ⟨rfl, m, rfl⟩
end Go.Proofs.Ytkdphgcbecldbaa
