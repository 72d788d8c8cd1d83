/- DevSynced: what its last loop counts. No program in sight. -/
import Derived.Test.YtkdphgcbecldbaaDevKK
namespace Go.Proofs.Ytkdphgcbecldbaa
open Go.RowKit
def hitW (b : List Nat) (n blocks : Int) (x : Deed) : Bool := decide (pick x.n blocks = n) && (decide (x.b.length ≤ 256) && decide (b = pad x.b))
def wb (b was : List Nat) (xs : List Deed) (n blocks : Int) (i : Nat) : Bool := decide (b = was) || (xs.take i).any (hitW b n blocks)
theorem wb_zero (b was : List Nat) (xs : List Deed) (n blocks : Int) : wb b was xs n blocks 0 = decide (b = was) := by simp [wb]
theorem wb_succ (b was : List Nat) (xs : List Deed) (n blocks : Int) (i : Nat) (h : i < xs.length) : wb b was xs n blocks (i + 1) = (wb b was xs n blocks i || hitW b n blocks xs[i]) := by
  unfold wb
  rw [List.take_succ_eq_append_getElem h, List.any_append, Bool.or_assoc]
  simp
def odds (f : Nat → Bool) (q : Nat) : Nat := ((List.range q).filter (fun n => !f n)).length
theorem odds_succ (f : Nat → Bool) (q : Nat) : odds f (q + 1) = odds f q + if f q = true then 0 else 1 := by
  unfold odds
  rw [List.range_succ, List.filter_append, List.length_append]
  cases h : f q <;> simp [h]
theorem odds_le (f : Nat → Bool) (q : Nat) : odds f q ≤ q := by
  unfold odds
  exact Nat.le_trans (List.length_filter_le _ _) (by simp)
theorem odds_one {f : Nat → Bool} {nt : Nat} (h : ∀ n, n ≠ nt → f n = true) : ∀ q, odds f q ≤ if nt < q then 1 else 0
  | 0 => by simp [odds]
  | q + 1 => by
    have ih := odds_one h q
    rw [odds_succ]
    by_cases e : q = nt
    · subst e
      rw [if_neg (Nat.lt_irrefl _)] at ih
      rw [if_pos (by omega : q < q + 1)]
      split <;> omega
    · rw [h q e, if_pos rfl, Nat.add_zero]
      split at ih
      · rw [if_pos (by omega)]; exact ih
      · rw [if_neg (by omega)]; exact ih
theorem wsL_mem {k : Nat} (hk : 1 ≤ k) {xs : List Deed} {e : Nat × List Nat} (h : e ∈ wsL k xs) : ∃ x, x ∈ xs ∧ x.b.length ≤ 256 ∧ pick x.n k = (e.1 : Int) ∧ e.2 = pad x.b ∧ e.1 < k := by
  unfold wsL at h
  obtain ⟨x, hx, he⟩ := List.mem_flatMap.1 h
  unfold wsOf at he
  split at he
  · rw [List.mem_singleton.1 he]
    obtain ⟨p1, p2⟩ := pick_lt x.n hk
    exact ⟨x, hx, by assumption, p1.symm, rfl, p2⟩
  · cases he
theorem whole_wb {k : Nat} (hk : 1 ≤ k) {xs : List Deed} {bl : Nat → List Nat} {n : Nat} {b : List Nat} (h : wholeP bl (wsL k xs) n b) : wb b (bl n) xs n k xs.length = true := by
  unfold wb
  rw [List.take_length]
  rcases h with h | ⟨e, he, h1, h2⟩
  · rw [decide_eq_true h]; rfl
  · obtain ⟨x, hx, hl, hp, hb, _⟩ := wsL_mem hk he
    rw [List.any_eq_true.2 ⟨x, hx, ?_⟩, Bool.or_true]
    unfold hitW
    rw [decide_eq_true (by rw [hp, h1] : pick x.n k = (n : Int)), decide_eq_true hl, decide_eq_true (h2.trans hb)]
    rfl
theorem pieces_ok {k : Nat} (hk : 1 ≤ k) {xs : List Deed} {bl : Nat → List Nat} {n : Nat} {b : List Nat} (h : piecesP bl (wsL k xs) n b) : ∀ s, s < 8 → okS b (bl n) xs n k s xs.length = true := fun s hs => by
  unfold okS
  rw [List.take_length]
  rcases h s hs with h | ⟨e, he, h1, h2⟩
  · rw [decide_eq_true h]; rfl
  · obtain ⟨x, hx, hl, hp, hb, _⟩ := wsL_mem hk he
    rw [List.any_eq_true.2 ⟨x, hx, ?_⟩, Bool.or_true]
    unfold hit
    rw [decide_eq_true hl, decide_eq_true (by rw [hp, h1] : pick x.n k = (n : Int)), decide_eq_true (by rw [h2, hb])]
    rfl
end Go.Proofs.Ytkdphgcbecldbaa
