/- The disk: Wake. -/
import Derived.Test.YtkdphgcbecldbaaDevU
namespace Go.Proofs.Ytkdphgcbecldbaa
open Go.RowKit
attribute [local go_sem ↓] wp_ld95 wp_st95
set_option maxRecDepth 100000 in
set_option maxHeartbeats 1000000 in
theorem wake_up (D : Dk) (a b c : Int) (w : World) (h : Dsk w D) (hd : D.dn = false) :
    Calls Try.prog 31 #[.pointer (some ⟨D.d, 0, none⟩), .int .i64 a, .int .i64 b, .int .i64 c] w fun r w' => r = .returned (.int .i64 16) ∧ Mv w D w' D := by
  have HH := Lib.hid h
  have Hd := Lib.hid hd
  clear h hd
  go_enter Try.func31, Try.ntmps31
  go_wp2_with fail
  refine (up_ok D _ HH.out Hd.out).mono ?_
  rintro e w1 ⟨rfl, rfl⟩
  go_wp2_with fail
  refine (told_ok _).mono ?_
  rintro e w2 ⟨rfl, hg⟩
  have HG := Lib.hid hg
  clear hg
  go_wp2_with fail
  go_ret
  exact ⟨rfl, Mv.gr HH.out HG.out⟩
theorem store_any (D : Dk) (n many : Nat) (l : List Nat) (w : World) (h : Dsk w D) (hn : n < D.k) (hm : many ≤ 8) (hl : l.length = 256) (hs : Small l) :
    Calls Try.prog 57 #[.pointer (some ⟨D.d, 0, none⟩), .agg (lc (n, l)).toArray, .int .i64 many] w fun r w' => r = .returned (.tuple #[]) ∧ Mv w D w' (D.st n l many) := by
  by_cases h8 : many = 8
  · subst h8; exact store_all D n l w h hn hl hs
  · exact store_some D n many l w h hn (by omega) hl hs
/-- how much of a write is stored when the disk is woken -/
def wkn (stay torn part : Int) (i : Nat) : Option Nat := if (i : Int) = torn then some (part % 9).toNat else if stay / 2 ^ (i % 60) % 2 = 1 then some 8 else none
def Dk.wk1 (D : Dk) (stay torn part : Int) (i : Nat) (e : Nat × List Nat) : Dk := match wkn stay torn part i with
  | some m => D.st e.1 e.2 m
  | none => D
def Dk.wkAll (D : Dk) (stay torn part : Int) (es : List (Nat × List Nat)) : Dk := es.zipIdx.foldl (fun D p => D.wk1 stay torn part p.2 p.1) D
def Dk.wake (D : Dk) (stay torn part : Int) : Dk := { D.wkAll stay torn part D.ws with wv := .slice none 0 0, ws := [], ar := 0, dn := false }
theorem wkAll_snoc (D : Dk) (stay torn part : Int) (es : List (Nat × List Nat)) (e : Nat × List Nat) : D.wkAll stay torn part (es ++ [e]) = (D.wkAll stay torn part es).wk1 stay torn part es.length e := by
  unfold Dk.wkAll
  rw [List.zipIdx_append, List.foldl_append]
  simp
theorem wk1_same (D : Dk) (stay torn part : Int) (i : Nat) (e : Nat × List Nat) : (D.wk1 stay torn part i e).d = D.d ∧ (D.wk1 stay torn part i e).k = D.k ∧ (D.wk1 stay torn part i e).wv = D.wv ∧ (D.wk1 stay torn part i e).ws = D.ws := by
  unfold Dk.wk1
  split <;> exact ⟨rfl, rfl, rfl, rfl⟩
theorem wkAll_same (D : Dk) (stay torn part : Int) : ∀ (es : List (Nat × List Nat)), (D.wkAll stay torn part es).d = D.d ∧ (D.wkAll stay torn part es).k = D.k ∧ (D.wkAll stay torn part es).wv = D.wv ∧ (D.wkAll stay torn part es).ws = D.ws := by
  intro es
  unfold Dk.wkAll
  generalize es.zipIdx = ps
  induction ps generalizing D with
  | nil => exact ⟨rfl, rfl, rfl, rfl⟩
  | cons p r ih =>
    obtain ⟨h1, h2, h3, h4⟩ := wk1_same D stay torn part p.2 p.1
    obtain ⟨g1, g2, g3, g4⟩ := ih (D.wk1 stay torn part p.2 p.1)
    exact ⟨g1.trans h1, g2.trans h2, g3.trans h3, g4.trans h4⟩
end Go.Proofs.Ytkdphgcbecldbaa
