/- Words for memory: a slice that reads as bytes, a slice of such slices. No program in sight. -/
import Derived.WalkKit
import Derived.WalkSpells
import Derived.WalkLawsBesides
import Derived.Lib.Hide
import Derived.Handy
namespace Go.Proofs.Ytkdphgcbecldbaa
open Go.RowKit

/-- a slice value's three parts -/
structure Sl where
  a : Option Addr
  n : Nat
  c : Nat
def Sl.v (s : Sl) : Value := .slice s.a s.n s.c
/-- the slice s lies below block B and has one-cell elements f 0, f 1, .. -/
def Lies (w : World) (B : Nat) (s : Sl) (f : Nat → Value) : Prop :=
  s.n ≤ s.c ∧ s.c ≤ 9223372036854775807 ∧ (0 < s.n → ∃ b o, s.a = some ⟨b, o, none⟩ ∧ b < B ∧ ∀ i, i < s.n → w.cell? ⟨b, o + i, none⟩ = some (f i))
theorem Lies.keep {w w' : World} {B : Nat} {s : Sl} {f : Nat → Value} (h : Lies w B s f) (hk : ∀ p : Addr, p.block < B → w'.cell? p = w.cell? p) : Lies w' B s f :=
  ⟨h.1, h.2.1, fun hn => by
    obtain ⟨b, o, e, hb, hc⟩ := h.2.2 hn
    exact ⟨b, o, e, hb, fun i hi => (hk _ hb).trans (hc i hi)⟩⟩
theorem Lies.below {w w' : World} {B B' : Nat} {s : Sl} {f : Nat → Value} (h : Lies w B s f) (hb : Below B' w w') (hB : B ≤ B') : Lies w' B s f :=
  h.keep fun _ hp => hb.cell (Nat.lt_of_lt_of_le hp hB)
theorem Lies.more {w : World} {B B' : Nat} {s : Sl} {f : Nat → Value} (h : Lies w B s f) (hB : B ≤ B') : Lies w B' s f :=
  ⟨h.1, h.2.1, fun hn => by
    obtain ⟨b, o, e, hb, hc⟩ := h.2.2 hn
    exact ⟨b, o, e, by omega, hc⟩⟩
theorem Lies.congr {w : World} {B : Nat} {s : Sl} {f g : Nat → Value} (h : Lies w B s f) (e : ∀ i, i < s.n → f i = g i) : Lies w B s g :=
  ⟨h.1, h.2.1, fun hn => by
    obtain ⟨b, o, e', hb, hc⟩ := h.2.2 hn
    exact ⟨b, o, e', hb, fun i hi => by rw [hc i hi, e i hi]⟩⟩
/-- what is left of a slice from k on -/
theorem Lies.cut {w : World} {B : Nat} {s : Sl} {f : Nat → Value} (h : Lies w B s f) (k : Nat) (hk : k ≤ s.n) :
    Lies w B ⟨if s.c = k then s.a else s.a.map (·.add k), s.n - k, s.c - k⟩ fun i => f (k + i) := by
  obtain ⟨h1, h2, h3⟩ := h
  refine ⟨by simp only; omega, by simp only; omega, fun hn => ?_⟩
  simp only at hn
  obtain ⟨b, o, e, hb, hc⟩ := h3 (by omega)
  have hne : ¬ s.c = k := by omega
  refine ⟨b, o + k, ?_, hb, fun i hi => ?_⟩
  · simp only [if_neg hne, e, Option.map_some, Addr.add]
    by_cases hz : k = 0
    · simp [hz]
    · simp [hz]
  · simp only at hi
    have := hc (k + i) (by omega)
    rw [show o + k + i = o + (k + i) by omega]
    exact this

/-- a byte of a list, as a value -/
def bv (l : List Nat) (i : Nat) : Value := .int .u8 ((l.getD i 0 : Nat) : Int)
def Small (l : List Nat) : Prop := ∀ x, x ∈ l → x < 256
theorem Small.at_ {l : List Nat} (h : Small l) (i : Nat) : l.getD i 0 < 256 := by
  rw [List.getD_eq_getElem?_getD]
  rcases Nat.lt_or_ge i l.length with hi | hi
  · rw [List.getElem?_eq_getElem hi]; exact h _ (List.getElem_mem hi)
  · rw [List.getElem?_eq_none hi]; decide
/-- the slice s reads as the bytes l -/
def Bs (w : World) (B : Nat) (s : Sl) (l : List Nat) : Prop := s.n = l.length ∧ Small l ∧ Lies w B s (bv l)
theorem Bs.below {w w' : World} {B B' : Nat} {s : Sl} {l : List Nat} (h : Bs w B s l) (hb : Below B' w w') (hB : B ≤ B') : Bs w' B s l := ⟨h.1, h.2.1, h.2.2.below hb hB⟩
theorem Bs.more {w : World} {B B' : Nat} {s : Sl} {l : List Nat} (h : Bs w B s l) (hB : B ≤ B') : Bs w B' s l := ⟨h.1, h.2.1, h.2.2.more hB⟩
theorem Bs.cut {w : World} {B : Nat} {s : Sl} {l : List Nat} (h : Bs w B s l) (k : Nat) (hk : k ≤ s.n) :
    Bs w B ⟨if s.c = k then s.a else s.a.map (·.add k), s.n - k, s.c - k⟩ (l.drop k) :=
  ⟨by simp [h.1], fun x hx => h.2.1 x (List.mem_of_mem_drop hx), (h.2.2.cut k hk).congr fun i _ => by simp [bv, List.getElem?_drop]⟩
/-- the bytes of a slice that is not empty -/
theorem Bs.at_ {w : World} {B : Nat} {s : Sl} {l : List Nat} (h : Bs w B s l) (hn : 0 < s.n) : ∃ b o, s.a = some ⟨b, o, none⟩ ∧ b < B ∧ ∀ i, i < s.n → w.cell? ⟨b, o + i, none⟩ = some (.int .u8 ((l.getD i 0 : Nat) : Int)) := h.2.2.2.2 hn

/-- the slice s has the slices ss, which read as the bytes ls -/
def Rs (w : World) (B : Nat) (s : Sl) (ss : List Sl) (ls : List (List Nat)) : Prop :=
  s.n = ss.length ∧ ss.length = ls.length ∧ Lies w B s (fun i => (ss.getD i ⟨none, 0, 0⟩).v) ∧ ∀ i, i < s.n → Bs w B (ss.getD i ⟨none, 0, 0⟩) (ls.getD i [])
theorem Rs.below {w w' : World} {B B' : Nat} {s : Sl} {ss : List Sl} {ls : List (List Nat)} (h : Rs w B s ss ls) (hb : Below B' w w') (hB : B ≤ B') : Rs w' B s ss ls :=
  ⟨h.1, h.2.1, h.2.2.1.below hb hB, fun i hi => (h.2.2.2 i hi).below hb hB⟩
end Go.Proofs.Ytkdphgcbecldbaa
