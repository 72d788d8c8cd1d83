/- The disk, woken: each block is as it was or one of its writes, but for one; sectors are never torn. No program in sight. -/
import Derived.Test.YtkdphgcbecldbaaDevII
namespace Go.Proofs.Ytkdphgcbecldbaa
open Go.RowKit
/-- the block is as it was, or as one of its writes -/
def wholeP (bl : Nat → List Nat) (es : List (Nat × List Nat)) (n : Nat) (b : List Nat) : Prop := b = bl n ∨ ∃ e, e ∈ es ∧ e.1 = n ∧ b = e.2
/-- each sector is that of what was there, or of one of its writes -/
def piecesP (bl : Nat → List Nat) (es : List (Nat × List Nat)) (n : Nat) (b : List Nat) : Prop := ∀ s, s < 8 → sec b s = sec (bl n) s ∨ ∃ e, e ∈ es ∧ e.1 = n ∧ sec b s = sec e.2 s
theorem sec_over {p b : List Nat} (hp : p.length = 256) (m s : Nat) (hs : s < 8) : sec (over (p.take (32 * m)) b) s = if s < m then sec p s else sec b s := by
  apply List.ext_getElem?
  intro i
  by_cases hi : i < 32
  · have h1 : ∀ l : List Nat, (sec l s)[i]? = l[32 * s + i]? := fun l => by
      unfold sec
      rw [List.getElem?_take, if_pos hi, List.getElem?_drop]
    split
    · rename_i h
      rw [h1, h1]
      unfold over
      rw [List.getElem?_append_left (by rw [List.length_take]; omega), List.getElem?_take, if_pos (by omega)]
    · rename_i h
      rw [h1, h1]
      unfold over
      rw [List.getElem?_append_right (by rw [List.length_take]; omega), List.getElem?_drop]
      congr 1
      rw [List.length_take]
      omega
  · have h2 : ∀ l : List Nat, (sec l s)[i]? = none := fun l => by
      unfold sec
      rw [List.getElem?_take, if_neg hi]
    split <;> rw [h2, h2]
theorem wkn_le {stay torn part : Int} {i m : Nat} (h : wkn stay torn part i = some m) : m ≤ 8 ∧ ((i : Int) ≠ torn → m = 8) := by
  unfold wkn at h
  split at h
  · injection h with h
    have := Int.emod_lt_of_pos part (show (0 : Int) < 9 by omega)
    exact ⟨by omega, fun hn => absurd (by assumption) hn⟩
  · split at h
    · injection h with h
      exact ⟨by omega, fun _ => h.symm⟩
    · cases h
theorem wk_pure (stay torn part : Int) (bl : Nat → List Nat) (all : List (Nat × List Nat)) (hb : ∀ e, e ∈ all → (bl e.1).length = 256) (he : ∀ e, e ∈ all → e.2.length = 256) (nt : Nat)
    (hnt : ∀ (i : Nat) e, all[i]? = some e → (i : Int) = torn → e.1 = nt) :
    ∀ (es : List (Nat × List Nat)) (i0 : Nat) (cur : Nat → List Nat), (∀ i e, es[i]? = some e → all[i0 + i]? = some e) → (∀ e, e ∈ all → (cur e.1).length = 256) →
      (∀ n, n ≠ nt → wholeP bl all n (cur n)) → (∀ n, piecesP bl all n (cur n)) →
      (∀ n, n ≠ nt → wholeP bl all n ((es.zipIdx i0).foldl (fun b p => match wkn stay torn part p.2 with | some m => upd b p.1.1 (over (p.1.2.take (32 * m)) (b p.1.1)) | none => b) cur n)) ∧
      (∀ n, piecesP bl all n ((es.zipIdx i0).foldl (fun b p => match wkn stay torn part p.2 with | some m => upd b p.1.1 (over (p.1.2.take (32 * m)) (b p.1.1)) | none => b) cur n))
  | [], _, _, _, _, h1, h2 => ⟨h1, h2⟩
  | e :: r, i0, cur, hes, hc, h1, h2 => by
    rw [List.zipIdx_cons, List.foldl_cons]
    have hall : all[i0]? = some e := hes 0 e rfl
    have hmem : e ∈ all := List.mem_of_getElem? hall
    have hl := he e hmem
    have hrest : ∀ i e', r[i]? = some e' → all[i0 + 1 + i]? = some e' := fun i e' hi => by
      have := hes (i + 1) e' (by simpa using hi)
      rw [show i0 + 1 + i = i0 + (i + 1) by omega]
      exact this
    cases hw : wkn stay torn part i0 with
    | none =>
      simp only
      exact wk_pure stay torn part bl all hb he nt hnt r (i0 + 1) cur hrest hc h1 h2
    | some m =>
      simp only
      obtain ⟨hm, hm8⟩ := wkn_le hw
      have hlen : (over (e.2.take (32 * m)) (cur e.1)).length = 256 := by
        rw [over_len (by rw [List.length_take, hc e hmem]; omega), hc e hmem]
      refine wk_pure stay torn part bl all hb he nt hnt r (i0 + 1) _ hrest (fun e' he' => ?_) (fun n hn => ?_) (fun n => ?_)
      · by_cases h : e'.1 = e.1
        · rw [h, upd_same]; exact hlen
        · rw [upd_other _ _ h]; exact hc e' he'
      · by_cases h : n = e.1
        · rw [h, upd_same]
          have hne : (i0 : Int) ≠ torn := fun e' => hn (by rw [h]; exact hnt i0 e hall e')
          rw [hm8 hne, over_all hl (hc e hmem)]
          exact .inr ⟨e, hmem, rfl, rfl⟩
        · rw [upd_other _ _ h]; exact h1 n hn
      · by_cases h : n = e.1
        · rw [h, upd_same]
          intro s hs
          rw [sec_over hl m s hs]
          split
          · exact .inr ⟨e, hmem, rfl, rfl⟩
          · exact h2 e.1 s hs
        · rw [upd_other _ _ h]; exact h2 n
theorem wkb_pure (stay torn part : Int) (bl : Nat → List Nat) (es : List (Nat × List Nat)) (hb : ∀ e, e ∈ es → (bl e.1).length = 256) (he : ∀ e, e ∈ es → e.2.length = 256) :
    ∃ nt, (∀ n, n ≠ nt → wholeP bl es n (wkb stay torn part bl es n)) ∧ ∀ n, piecesP bl es n (wkb stay torn part bl es n) := by
  obtain ⟨nt, hnt⟩ : ∃ nt, ∀ (i : Nat) e, es[i]? = some e → (i : Int) = torn → e.1 = nt := by
    by_cases h : 0 ≤ torn ∧ torn.toNat < es.length
    · refine ⟨es[torn.toNat].1, fun i e hi ht => ?_⟩
      have hi' : i = torn.toNat := by omega
      subst hi'
      rw [List.getElem?_eq_getElem h.2] at hi
      injection hi with hi
      rw [hi]
    · refine ⟨0, fun i e hi ht => ?_⟩
      have := (List.getElem?_eq_some_iff.1 hi).1
      omega
  exact ⟨nt, wk_pure stay torn part bl es hb he nt hnt es 0 bl (fun i e hi => by rw [Nat.zero_add]; exact hi) hb (fun n _ => .inl rfl) (fun n s _ => .inl rfl)⟩
end Go.Proofs.Ytkdphgcbecldbaa
