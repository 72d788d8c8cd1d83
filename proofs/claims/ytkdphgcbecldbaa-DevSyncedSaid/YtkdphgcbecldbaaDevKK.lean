/- The law DevSynced (7): a deed written; what its early ends need. -/
import Derived.Test.YtkdphgcbecldbaaDevJJ
namespace Go.Proofs.Ytkdphgcbecldbaa
open Go.RowKit
def wsOf (k : Nat) (x : Deed) : List (Nat × List Nat) := if x.b.length ≤ 256 then [((pick x.n k).toNat, pad x.b)] else []
def wsL (k : Nat) (xs : List Deed) : List (Nat × List Nat) := xs.flatMap (wsOf k)
theorem wsL_succ (k : Nat) (xs : List Deed) (i : Nat) (h : i < xs.length) : wsL k (xs.take (i + 1)) = wsL k (xs.take i) ++ wsOf k xs[i] := by
  unfold wsL
  rw [List.take_succ_eq_append_getElem h, List.flatMap_append]
  simp
theorem wsOf_len (k : Nat) (x : Deed) : (wsOf k x).length ≤ 1 := by unfold wsOf; split <;> simp
theorem wsL_len (k : Nat) : ∀ (xs : List Deed), (wsL k xs).length ≤ xs.length
  | [] => by simp [wsL]
  | x :: r => by
    have := wsL_len k r
    have := wsOf_len k x
    unfold wsL at *
    rw [List.flatMap_cons, List.length_append, List.length_cons]
    omega
theorem pick_lt (n : Int) {k : Nat} (hk : 1 ≤ k) : (((pick n k).toNat : Nat) : Int) = pick n k ∧ (pick n k).toNat < k := by
  have e : pick n k = n % k := if_neg (by omega)
  have b0 := Int.emod_nonneg n (show (k : Int) ≠ 0 by omega)
  have b1 := Int.emod_lt_of_pos n (show (0 : Int) < k by omega)
  rw [e]
  omega
theorem up_write {B : Nat} {w0 w : World} {d : Nat} {D : Dk} {k : Nat} {bl : Nat → List Nat} {hu : Nat → Bool} {ws : List (Nat × List Nat)} (hU : Up B w0 w d D) (hI : Is D k false bl hu ws) (hk : 1 ≤ k) (hws : ws.length ≤ 1000000) (x : Deed) (hok : DeedOk w B x) :
    Calls Try.prog 26 #[.pointer (some ⟨d, 0, none⟩), .int .i64 (pick x.n k), .slice x.s.a x.s.n x.s.c] w fun r w' => (∃ c, r = .returned (.int .i64 c)) ∧ ∃ D', Mv w D w' D' ∧ Up B w0 w' d D' ∧ Is D' k false bl hu (ws ++ wsOf k x) := by
  obtain ⟨hp1, hp2⟩ := pick_lt x.n hk
  have hl := hok.bs.1
  rw [← hp1]
  unfold wsOf
  generalize (pick x.n k).toNat = q at *
  by_cases h : x.s.n ≤ 256
  · rw [if_pos (by omega)]
    have hc := write_is hI q x.s.a x.s.n x.s.c x.b B w hU.dsk hok.bs (Nat.le_trans hU.le hU.gr.size) (fun hpos b o e hf => by
      have f1 := hU.fp b hf
      obtain ⟨b', o', e', hlt, _⟩ := hok.bs.at_ hpos
      rw [e] at e'
      injection e' with e'
      injection e' with e'
      omega) hp2 h hws
    rw [hU.d] at hc
    exact hc.mono fun r w' ⟨h1, D', h2, h3⟩ => ⟨⟨_, h1⟩, D', h2, hU.mv h2, h3⟩
  · rw [if_neg (by omega), List.append_nil]
    have hc := long_is hI q x.s.a x.s.n x.s.c w hU.dsk hp2 (by omega)
    rw [hU.d] at hc
    exact hc.mono fun r w' ⟨h1, D', h2, h3⟩ => ⟨⟨_, h1⟩, D', h2, hU.mv h2, h3⟩
set_option maxRecDepth 100000 in
set_option maxHeartbeats 4000000 in
theorem synced_out (blocks stay torn part : Int) (A1 A2 : Option Addr) (n1 c1 n2 c2 : Nat) (xs1 xs2 : List Deed) (w : World) (h1 : Ds w w.heap.size A1 n1 xs1) (h2 : Ds w w.heap.size A2 n2 xs2) (hb : i64 blocks)
    (h : blocks < 1 ∨ 40 < blocks ∨ 60 < n1 + n2 ∨ greatB blocks xs1 = true ∨ greatB blocks xs2 = true) :
    Calls Try.prog 7 #[.int .i64 blocks, .slice A1 n1 c1, .slice A2 n2 c2, .int .i64 stay, .int .i64 torn, .int .i64 part] w fun r w' => r = .returned (.bool true) ∧ Gr w w' := by
  have H1 := Lib.hid h1
  have H2 := Lib.hid h2
  have HB := Lib.hid hb
  have hm1 := h1.max
  have hm2 := h2.max
  have hb' := hb
  unfold i64 at hb'
  clear h1 h2 hb
  by_cases g1 : blocks < 1
  · go_enter Try.func7, Try.ntmps7
    go_wp2_with fail
    refine (awake_ok w).mono ?_
    rintro e w1 ⟨rfl, hg⟩
    go_wp2_with fail
    go_ret
    exact ⟨rfl, hg⟩
  · by_cases g2 : 40 < blocks
    · go_enter Try.func7, Try.ntmps7
      go_wp2_with fail
      refine (awake_ok w).mono ?_
      rintro e w1 ⟨rfl, hg⟩
      go_wp2_with fail
      go_ret
      exact ⟨rfl, hg⟩
    · have g3 : 1 ≤ blocks := by omega
      have g4 : blocks ≤ 40 := by omega
      by_cases g5 : 60 < n1 + n2
      · have g6 : (60 : Int) < (n1 : Int) + (n2 : Int) := by omega
        clear g1 g2 h
        go_enter Try.func7, Try.ntmps7
        go_wp2_with fail
        refine (awake_ok w).mono ?_
        rintro e w1 ⟨rfl, hg⟩
        go_wp2_with fail
        go_ret
        exact ⟨rfl, hg⟩
      · have g6 : (n1 : Int) + (n2 : Int) ≤ 60 := by omega
        have hgr : greatB blocks xs1 = true ∨ greatB blocks xs2 = true := by
          rcases h with h | h | h | h | h
          · exact absurd h g1
          · exact absurd h g2
          · exact absurd h g5
          · exact .inl h
          · exact .inr h
        have HGR := Lib.hid hgr
        clear g1 g2 h g5 hgr
        go_enter Try.func7, Try.ntmps7
        go_wp2_with fail
        refine (awake_ok w).mono ?_
        rintro e w1 ⟨rfl, hg⟩
        have HG := Lib.hid hg
        clear hg
        go_wp2_with fail
        refine (great_ok blocks A1 n1 c1 xs1 w.heap.size w1 (H1.out.below HG.out (Nat.le_refl _)) HB.out).mono ?_
        rintro e w1 ⟨rfl, rfl⟩
        cases hgg : greatB blocks xs1 with
        | true =>
          go_wp2_with fail
          go_ret
          exact ⟨rfl, HG.out⟩
        | false =>
          have hg2 : greatB blocks xs2 = true := by
            rcases HGR.out with h | h
            · rw [hgg] at h; cases h
            · exact h
          have HG2 := Lib.hid hg2
          clear hgg hg2
          go_wp2_with fail
          refine (great_ok blocks A2 n2 c2 xs2 w.heap.size w1 (H2.out.below HG.out (Nat.le_refl _)) HB.out).mono ?_
          rintro e w1 ⟨rfl, rfl⟩
          rw [HG2.out]
          go_wp2_with fail
          go_ret
          exact ⟨rfl, HG.out⟩
end Go.Proofs.Ytkdphgcbecldbaa
