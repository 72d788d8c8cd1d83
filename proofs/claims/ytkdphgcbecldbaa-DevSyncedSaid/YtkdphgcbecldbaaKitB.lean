/- Walks of limpetkit's LentRows and KeptRows. -/
import Derived.Test.YtkdphgcbecldbaaKitA
import Derived.Deep.RegionHeld3
namespace Go.Proofs.Ytkdphgcbecldbaa
open Go.RowKit

/-- bytes that were lent, at block g -/
def lentV (g : Nat) (l : List Nat) : Value := .slice (some ⟨g, 0, none⟩) l.length (l.length + 12)
theorem ownsRow_below {w w' : World} {base : Nat} {e : TypeId} {size : Nat} {v : Value} {n : Nat} {xs : List Value} (h : w.ownsRow base e size v n xs) (hb : Below w.heap.size w w') : w'.ownsRow base e size v n xs := by
  obtain ⟨h1, h2⟩ := h
  refine ⟨h1, ?_⟩
  rcases h2 with h2 | ⟨g, cap, cur, hv, hg, hh, r⟩
  · exact Or.inl h2
  · refine Or.inr ⟨g, cap, cur, hv, hg, ?_, r⟩
    rw [hb.block g]
    · exact hh
    · rcases Nat.lt_or_ge g w.heap.size with hlt | hge
      · exact hlt
      · rw [Array.getElem?_eq_none hge] at hh; cases hh
theorem own_ne {w : World} {base : Nat} {e : TypeId} {size n : Nat} {v : Value} {xs : List Value} (h : w.ownsRow base e size v n xs) {g : Nat} {t : TypeId} {cs : Array Value} (hg : Blk w g t cs) (hne : e ≠ t) : some g ≠ v.ownBlock := by
  rcases h.2 with ⟨rfl, _⟩ | ⟨g', cap, cur, rfl, _, hh, _⟩
  · simp [Value.ownBlock]
  · intro he
    have : g = g' := by simpa [Value.ownBlock] using he
    subst this
    unfold Blk at hg
    rw [hg] at hh
    injection hh with hh
    injection hh with _ ht
    exact hne ht.symm
theorem Blk.grown {w w' : World} {g : Nat} {t : TypeId} {cs : Array Value} {row : Option Nat} (h : Blk w g t cs) (hb : w.grownBy w' row) (hg : some g ≠ row) : Blk w' g t cs := (hb.block g h.lt hg).trans h
theorem Blk.alloc {w : World} {g : Nat} {t : TypeId} {cs : Array Value} (h : Blk w g t cs) (o : Obj) : Blk (w.alloc o) g t cs := (Below.heap_alloc w o g h.lt).trans h

/-- the blocks gs hold the bytes ls, and marks behind them -/
def LentAt (w : World) (B : Nat) (gs : List Nat) (ls : List (List Nat)) : Prop :=
  ∀ i, i < gs.length → B ≤ gs.getD i 0 ∧ Blk w (gs.getD i 0) 5 (bvs (ls.getD i [] ++ marks)).toArray
theorem LentAt.keep {w w' : World} {B : Nat} {gs : List Nat} {ls : List (List Nat)} (h : LentAt w B gs ls) (hk : ∀ g cs, Blk w g 5 cs → Blk w' g 5 cs) : LentAt w' B gs ls :=
  fun i hi => ⟨(h i hi).1, hk _ _ (h i hi).2⟩
theorem LentAt.snoc {w : World} {B g : Nat} {gs : List Nat} {ls : List (List Nat)} (h : LentAt w B gs ls) (hB : B ≤ g) (hg : Blk w g 5 (bvs (ls.getD gs.length [] ++ marks)).toArray) : LentAt w B (gs ++ [g]) ls := by
  intro i hi
  simp only [List.length_append, List.length_cons, List.length_nil] at hi
  rcases Nat.lt_or_ge i gs.length with hlt | hge
  · have e : (gs ++ [g]).getD i 0 = gs.getD i 0 := by rw [List.getD_eq_getElem?_getD, List.getElem?_append_left hlt, ← List.getD_eq_getElem?_getD]
    rw [e]; exact h i hlt
  · have hi2 : i = gs.length := by omega
    subst hi2
    have e : (gs ++ [g]).getD gs.length 0 = g := by rw [List.getD_eq_getElem?_getD, List.getElem?_append_right (Nat.le_refl _)]; simp
    rw [e]; exact ⟨hB, hg⟩
theorem zip_snoc (gs : List Nat) (g : Nat) (ls : List (List Nat)) (h : gs.length < ls.length) : List.zipWith lentV (gs ++ [g]) ls = List.zipWith lentV gs ls ++ [lentV g (ls.getD gs.length [])] := by
  induction gs generalizing ls with
  | nil => cases ls with
    | nil => simp at h
    | cons l ls => rfl
  | cons x gs ih => cases ls with
    | nil => simp at h
    | cons l ls =>
      have := ih ls (by simpa using h)
      simp only [List.cons_append, List.zipWith_cons_cons, this, List.length_cons, List.getD_cons_succ]
theorem info24 : (Try.prog.info? 24).map (fun i => (i.zero, i.size, i.bytes)) = some (some (.slice none 0 0), 1, 24) := by kernel_rfl

set_option maxRecDepth 100000 in
set_option maxHeartbeats 1000000 in
/-- rows that are lent -/
theorem lentrows_any (A : Option Addr) (n c : Nat) (ss : List Sl) (ls : List (List Nat)) (w : World) (h : Rs w w.heap.size ⟨A, n, c⟩ ss ls) (hn : n ≤ 1000000)
    (hs : ∀ i, i < n → (ls.getD i []).length ≤ 1000000) (h0 : ∀ i, i < n → (ss.getD i ⟨none, 0, 0⟩).a = none → (ss.getD i ⟨none, 0, 0⟩).c = 0) :
    Calls Try.prog 12 #[.slice A n c] w fun e w' => ∃ (v : Value) (gs : List Nat), e = .returned v ∧ gs.length = n ∧ w'.ownsRow w.heap.size 24 1 v n (List.zipWith lentV gs ls) ∧ LentAt w' w.heap.size gs ls ∧ Below w.heap.size w w' := by
  obtain ⟨i24, hi, hz, hsz, hby⟩ := info_parts info24
  have hnc : n ≤ c := h.2.2.1.1
  have hcm : c ≤ 9223372036854775807 := h.2.2.1.2.1
  have hll : ls.length = n := by rw [← h.2.1, ← h.1]
  have HLL := Lib.hid hll
  have H := Lib.hid h
  have HS := Lib.hid hs
  have H0 := Lib.hid h0
  clear h hs h0 hll
  go_enter Try.func12, Try.ntmps12
  go_wp2_with fail
  go_loopw [3, 4] (fun v i wr => ∃ (k : Nat) (gs : List Nat), k ≤ n ∧ i = .int .i64 k ∧ Hid (gs.length = k) ∧ wr.ownsRow w.heap.size 24 1 v k (List.zipWith lentV gs ls) ∧ LentAt wr w.heap.size gs ls ∧ Below w.heap.size w wr) (fun _ i _ => n - (intOf i).toNat)
  case atStart => exact ⟨0, [], by omega, rfl, rfl, ⟨rfl, .inl ⟨rfl, rfl⟩⟩, fun i hi => absurd hi (by simp), Below.refl _ _⟩
  case round =>
    obtain ⟨k, gs, hk, rfl, HG, hown, hlent, hb⟩ := hrel
    by_cases hkn : k < n
    · have H1 := H.out.below hb (Nat.le_refl _)
      obtain ⟨b, o, hA, hbB, hcell⟩ := H1.2.2.1.2.2 (by omega : 0 < n)
      have hck := hcell k hkn
      have hRk := H1.2.2.2 k hkn
      have hsk := HS.out k hkn
      have h0k := H0.out k hkn
      simp only at hA hck
      subst hA
      generalize hl : ls.getD k [] = l at hRk hsk
      generalize ss.getD k ⟨none, 0, 0⟩ = s at hRk hck h0k
      obtain ⟨A', n', c'⟩ := s
      simp only [Sl.v] at hck h0k
      have hn' : n' = l.length := hRk.1
      subst hn'
      have HR := Lib.hid hRk
      have HL := Lib.hid hl
      have H0k := Lib.hid h0k
      have hown' := Lib.hid hown
      clear H1 hRk hcell hl h0k hown
      go_wp2_with fail
      refine (lent_any A' l.length c' w.heap.size l _ HR.out hb.size H0k.out hsk).mono ?_
      rintro e w1 ⟨g, rfl, hgB, hblk, hb1⟩
      have hown1 := ownsRow_below hown'.out hb1
      have hlent1 : LentAt w1 w.heap.size gs ls := hlent.keep fun g cs hg => hg.below hb1 hg.lt
      have hbw1 : Below w.heap.size w w1 := hb.trans (hb1.mono hb.size)
      have hblk' : Blk w1 g 5 (bvs (ls.getD gs.length [] ++ marks)).toArray := by rw [HG.out, HL.out]; exact hblk
      have hl2 : Hid (LentAt w1 w.heap.size (gs ++ [g]) ls) := hlent1.snoc (Nat.le_trans hb.size hgB) hblk'
      have hown2 := Lib.hid hown1
      clear hblk hown1 hlent1 hblk' hlent hown'
      go_wp2_with (at_builtin; refine wpList_append_own _ rfl (.tmp 11) (.tmp 17) 22 rfl w.heap.size 24 i24 (.slice none 0 0) 1 24 Try.underlying22 hi hz hsz hby rfl (by decide) u3 k _ rfl (hown2.out.alloc _) ⟨w1.heap.size, 0, none⟩ 1 1 [.slice (some ⟨g, 0, none⟩) l.length (l.length + 12)] rfl rfl ?d1 ?d2 ?d3 ?d4 ?d5 ?_)
      case d1 => exact cell_one_new _ _ _
      case d2 => intro u hu; rw [List.mem_singleton.1 hu]; rfl
      case d3 => unfold maxLen; omega
      case d4 => omega
      case d5 => rw [World.size_alloc]; have := hbw1.size; omega
      intro v' w3 hown3 hg3 _
      have hb3 : Below w.heap.size w w3 := (hbw1.alloc hbw1.size _).grown hg3 (by rw [World.size_alloc]; have := hbw1.size; omega) (fun q hq => by
        rcases hown2.out.2 with ⟨rfl, _⟩ | ⟨g', cap, cur, rfl, hgg, _⟩
        · simp [Value.ownBlock] at hq
        · have : g' = q := by simpa [Value.ownBlock] using hq
          omega)
      have hl3 : LentAt w3 w.heap.size (gs ++ [g]) ls := hl2.out.keep fun g cs hg => (hg.alloc _).grown hg3 (own_ne hown2.out hg (by decide))
      have hown3' := Lib.hid hown3
      clear hown3
      go_wp2_with fail
      go_roundw
      case rel =>
        refine ⟨k + 1, gs ++ [g], by omega, by go_num, by show _ = _; rw [List.length_append, HG.out]; rfl, ?_, hl3, hb3⟩
        have hkl : gs.length < ls.length := by rw [HLL.out, HG.out]; exact hkn
        have e := zip_snoc gs g ls hkl
        rw [HG.out, HL.out] at e
        rw [e]
        exact hown3'.out
      case measure => simp [intOf]; omega
    · obtain rfl : k = n := by omega
      go_wp2_with fail
      go_ret
      exact ⟨u3, gs, rfl, HG.out, hown, hlent, hb⟩

theorem LentAt.below {w w' : World} {B B' : Nat} {gs : List Nat} {ls : List (List Nat)} (h : LentAt w B gs ls) (hb : Below B' w w') (hB : w.heap.size ≤ B') : LentAt w' B gs ls :=
  h.keep fun _ _ hg => hg.below hb (Nat.lt_of_lt_of_le hg.lt hB)
/-- what a row of lent bytes reads as: a slice of slices -/
def InAt (w : World) (s : Sl) (gs : List Nat) (ls : List (List Nat)) : Prop :=
  s.n = gs.length ∧ gs.length = ls.length ∧ Lies w w.heap.size s (fun i => lentV (gs.getD i 0) (ls.getD i [])) ∧ LentAt w 0 gs ls
theorem InAt.below {w w' : World} {s : Sl} {gs : List Nat} {ls : List (List Nat)} (h : InAt w s gs ls) (hb : Below w.heap.size w w') : InAt w' s gs ls :=
  ⟨h.1, h.2.1, (h.2.2.1.below hb (Nat.le_refl _)).more hb.size, h.2.2.2.below hb (Nat.le_refl _)⟩
theorem InAt.drewN {w : World} {s : Sl} {gs : List Nat} {ls : List (List Nat)} (h : InAt w s gs ls) (n : Nat) : InAt (w.drewN n) s gs ls := h
/-- the value that lentrows hands back, as a slice -/
theorem inAt_of {w : World} {B n : Nat} {v : Value} {gs : List Nat} {ls : List (List Nat)} (ho : w.ownsRow B 24 1 v n (List.zipWith lentV gs ls)) (hg : gs.length = n) (hl : ls.length = n) (hb : LentAt w B gs ls) :
    ∃ s : Sl, v = s.v ∧ s.n = n ∧ InAt w s gs ls := by
  have h0 : LentAt w 0 gs ls := fun i hi => ⟨Nat.zero_le _, (hb i hi).2⟩
  rcases ho.2 with ⟨rfl, rfl⟩ | ⟨g, cap, cur, rfl, hgB, hh, hc1, hc2, hcs, htk⟩
  · exact ⟨⟨none, 0, 0⟩, rfl, rfl, hg.symm, by rw [hg, hl], ⟨Nat.le_refl _, by simp, fun h => absurd h (by simp)⟩, h0⟩
  · refine ⟨⟨some ⟨g, 0, none⟩, n, cap⟩, rfl, rfl, hg.symm, by rw [hg, hl], ⟨hc1, by unfold maxLen at hc2; exact hc2, fun _ => ⟨g, 0, rfl, ?_, fun i hi => ?_⟩⟩, h0⟩
    · rcases Nat.lt_or_ge g w.heap.size with hlt | hge
      · exact hlt
      · rw [Array.getElem?_eq_none hge] at hh; cases hh
    · simp only at hi
      rw [cell_of_row w g (0 + i) cur 24 (0, 0) hh, Nat.zero_add, ← Array.getElem?_toList]
      have h1 : (cur.toList.take (n * 1))[i]? = cur.toList[i]? := by rw [List.getElem?_take, if_pos (by omega)]
      rw [← h1, htk, List.getElem?_zipWith]
      have hi1 : i < gs.length := by omega
      have hi2 : i < ls.length := by omega
      simp only [List.getElem?_eq_getElem hi1, List.getElem?_eq_getElem hi2, List.getD_eq_getElem?_getD, Option.getD_some]
/-- lent bytes read as the bytes -/
theorem LentAt.bs {w : World} {B : Nat} {gs : List Nat} {ls : List (List Nat)} (h : LentAt w B gs ls) (i : Nat) (hi : i < gs.length) (hs : Small (ls.getD i [])) (hsz : (ls.getD i []).length ≤ 1000000) :
    Bs w w.heap.size ⟨some ⟨gs.getD i 0, 0, none⟩, (ls.getD i []).length, (ls.getD i []).length + 12⟩ (ls.getD i []) := by
  have hb := (h i hi).2
  refine ⟨rfl, hs, Nat.le_add_right _ _, by simp only; omega, fun _ => ⟨gs.getD i 0, 0, rfl, hb.lt, fun j hj => ?_⟩⟩
  simp only at hj
  rw [Nat.zero_add, blk_bvs hb j (by rw [List.length_append]; omega), List.getD_eq_getElem?_getD, List.getElem?_append_left hj, ← List.getD_eq_getElem?_getD]
  rfl

set_option maxRecDepth 100000 in
set_option maxHeartbeats 1000000 in
/-- rows that were lent are as they were -/
theorem keptrows_any (Ai A : Option Addr) (n ci c B : Nat) (gs : List Nat) (ss : List Sl) (ls : List (List Nat)) (w : World) (hin : InAt w ⟨Ai, n, ci⟩ gs ls) (h : Rs w B ⟨A, n, c⟩ ss ls)
    (hs : ∀ i, i < n → (ls.getD i []).length ≤ 1000000) :
    Calls Try.prog 20 #[.slice Ai n ci, .slice A n c] w fun e w' => e = .returned (.bool true) ∧ ∃ m, w' = w.drewN m := by
  have hnc : n ≤ c := h.2.2.1.1
  have hcm : c ≤ 9223372036854775807 := h.2.2.1.2.1
  have H := Lib.hid h
  have HS := Lib.hid hs
  have HI := Lib.hid hin
  clear h hs hin
  go_enter Try.func20, Try.ntmps20
  go_wp2_with fail
  go_loopw [5] (fun i wr => ∃ k m : Nat, k ≤ n ∧ i = .int .i64 k ∧ wr = w.drewN m) (fun i _ => n - (intOf i).toNat)
  case atStart => exact ⟨0, 0, by omega, rfl, rfl⟩
  case round =>
    obtain ⟨k, m, hk, rfl, rfl⟩ := hrel
    by_cases hkn : k < n
    · obtain ⟨b, o, hA, _, hcell⟩ := H.out.2.2.1.2.2 (by omega : 0 < n)
      obtain ⟨b2, o2, hA2, _, hcell2⟩ := HI.out.2.2.1.2.2 (by omega : 0 < n)
      have hck : (w.drewN m).cell? ⟨b, o + k, none⟩ = some (ss.getD k ⟨none, 0, 0⟩).v := hcell k hkn
      have hck2 : (w.drewN m).cell? ⟨b2, o2 + k, none⟩ = some (lentV (gs.getD k 0) (ls.getD k [])) := hcell2 k hkn
      have hRk : Bs (w.drewN m) B _ _ := H.out.2.2.2 k hkn
      have hsk := HS.out k hkn
      have hbk : Blk (w.drewN m) (gs.getD k 0) 5 (bvs (ls.getD k [] ++ marks)).toArray := (HI.out.2.2.2 k (by have := HI.out.1; simp only at this; omega)).2
      simp only at hA hA2
      subst hA
      subst hA2
      generalize ls.getD k [] = l at *
      generalize gs.getD k 0 = g at *
      generalize ss.getD k ⟨none, 0, 0⟩ = s at *
      obtain ⟨A', n', c'⟩ := s
      have hn' : n' = l.length := hRk.1
      subst hn'
      simp only [Sl.v] at hck
      simp only [lentV] at hck2
      have HR := Lib.hid hRk
      have HBk := Lib.hid hbk
      clear hRk hbk hcell hcell2
      generalize hW : w.drewN m = W at *
      have HW := Lib.hid hW
      clear hW
      have HK : Hid (∀ p, Calls Try.prog 51 #[.slice (some ⟨g, 0, none⟩) l.length (l.length + 12), .slice A' l.length c'] (W.drewN p) fun e w' => e = .returned (.bool true) ∧ ∃ m, w' = (W.drewN p).drewN m) :=
        fun p => kept_any A' g l.length c' B l (W.drewN p) HR.out HBk.out hsk
      clear HR HBk
      go_wp2_with fail
      go_quiet ((go_at_call 51; exact Calls.quiet_of (HK.out _)))
      go_wp2_with fail
      go_roundw
      case rel => exact ⟨k + 1, m + nq, by omega, by go_num, by rw [← HW.out, World.drewN_drewN]⟩
      case measure => simp [intOf]; omega
    · obtain rfl : k = n := by omega
      go_wp2_with fail
      go_ret
      exact ⟨rfl, m, rfl⟩
end Go.Proofs.Ytkdphgcbecldbaa
