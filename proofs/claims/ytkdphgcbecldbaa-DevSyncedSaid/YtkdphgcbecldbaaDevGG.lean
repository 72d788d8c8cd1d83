/- The laws of layer 3: are deeds more than is gone through? (24) -/
import Derived.Test.YtkdphgcbecldbaaDevDD
import Derived.Test.YtkdphgcbecldbaaDeeds
namespace Go.Proofs.Ytkdphgcbecldbaa
open Go.RowKit
def gs (xs : List Deed) (k : Nat) : Nat := ((xs.take k).map (fun x => x.b.length)).sum
theorem gs_succ (xs : List Deed) (k : Nat) (h : k < xs.length) : gs xs (k + 1) = gs xs k + xs[k].b.length := by
  unfold gs
  rw [List.take_succ_eq_append_getElem h, List.map_append, List.sum_append]
  simp
theorem gs_le {w : World} {B : Nat} {xs : List Deed} (h : ∀ x, x ∈ xs → DeedOk w B x) : ∀ k, k ≤ xs.length → gs xs k ≤ k * 140737488351232
  | 0, _ => by simp [gs]
  | k + 1, hk => by
    rw [gs_succ xs k (by omega)]
    have := gs_le h k (by omega)
    have := (h xs[k] (List.getElem_mem _)).len
    omega
def greatB (blocks : Int) (xs : List Deed) : Bool := decide (120 < xs.length) || decide (10000 < gs xs (min xs.length 120)) || (decide (40 < blocks) && decide (blocks ≤ 4096))
/-- a deed's cells -/
theorem Ds.cell {w : World} {B : Nat} {A : Option Addr} {n : Nat} {xs : List Deed} (h : Ds w B A n xs) {i : Nat} (hi : i < xs.length) : ∃ b o, A = some ⟨b, o, none⟩ ∧ b < B ∧
    w.cell? ⟨b, o + i * 6, none⟩ = some (.int .i64 xs[i].what) ∧ w.cell? ⟨b, o + i * 6 + 1, none⟩ = some (.int .i64 xs[i].n) ∧ w.cell? ⟨b, o + i * 6 + 2, none⟩ = some xs[i].s.v ∧
    w.cell? ⟨b, o + i * 6 + 3, none⟩ = some (.int .i64 xs[i].torn) ∧ w.cell? ⟨b, o + i * 6 + 4, none⟩ = some (.int .i64 xs[i].part) ∧ w.cell? ⟨b, o + i * 6 + 5, none⟩ = some (.int .u32 xs[i].mask) := by
  obtain ⟨b, o, e, hb, hc⟩ := h.at_ (by have := h.len; omega)
  have k := hc i hi
  exact ⟨b, o, e, hb, k 0 _ rfl, k 1 _ rfl, k 2 _ rfl, k 3 _ rfl, k 4 _ rfl, k 5 _ rfl⟩
set_option maxRecDepth 100000 in
set_option maxHeartbeats 2000000 in
theorem great_ok (blocks : Int) (A : Option Addr) (n c : Nat) (xs : List Deed) (B : Nat) (w : World) (h : Ds w B A n xs) (hb : i64 blocks) :
    Calls Try.prog 24 #[.int .i64 blocks, .slice A n c] w fun r w' => r = .returned (.bool (greatB blocks xs)) ∧ w' = w := by
  have HN := Lib.hid h.len
  have hmx := h.max
  have HH := Lib.hid h
  obtain ⟨hb1, hb2⟩ := hb
  have HG := Lib.hid (gs_le h.ok)
  clear h
  go_enter Try.func24, Try.ntmps24
  go_wp2_with fail
  go_loopw [5, 6] (fun s i wr => ∃ k : Nat, k ≤ n ∧ k ≤ 120 ∧ i = .int .i64 k ∧ s = .int .i64 (gs xs k : Nat) ∧ wr = w) (fun _ i _ => 120 - (intOf i).toNat)
  case atStart => exact ⟨0, by omega, by omega, rfl, rfl, rfl⟩
  case round =>
    obtain ⟨k, hk, hk2, rfl, rfl, rfl⟩ := hrel
    have hgk := HG.out k (by have := HN.out; omega)
    have hgk' : (gs xs k : Int) ≤ 120 * 140737488351232 := by omega
    by_cases hlt : k < n
    · by_cases hl2 : k < 120
      · have hkx : k < xs.length := by have := HN.out; omega
        obtain ⟨b, o, rfl, hbB, c0, c1, c2, c3, c4, c5⟩ := HH.out.cell (i := k) hkx
        have hs := gs_succ xs k hkx
        have hbs := (HH.out.ok xs[k] (List.getElem_mem _)).bs.1
        have hbl := (HH.out.ok xs[k] (List.getElem_mem _)).len
        rw [← hbs] at hs hbl
        have HS := Lib.hid hs
        clear hs hbs
        generalize xs[k] = e at *
        clear hkx
        have b1 : (0 : Int) ≤ (k : Int) := by omega
        have b2 : (k : Int) < (n : Int) := by omega
        unfold Sl.v at c2
        go_wp2_with fail
        go_roundw
        case rel => exact ⟨k + 1, by omega, by omega, by go_num, by rw [HS.out]; exact ⟨by rw [Int.natCast_add], trivial⟩⟩
        case measure => simp [intOf]; omega
      · have hm : min xs.length 120 = k := by have := HN.out; omega
        have hgb : greatB blocks xs = (decide (120 < (n : Int)) || decide (10000 < (gs xs k : Int)) || (decide (40 < blocks) && decide (blocks ≤ 4096))) := by
          unfold greatB
          rw [hm, ← HN.out]
          congr 1
          congr 1
          · exact decide_eq_decide.2 (by omega)
          · exact decide_eq_decide.2 (by omega)
        have HGB := Lib.hid hgb
        clear hgb hm
        go_wp2_with fail
        all_goals (
          go_ret
          refine ⟨?_, rfl⟩
          rw [HGB.out]
          refine congrArg (fun x => Ending.returned (Value.bool x)) ?_
          clear HGB HG HN
          first | rfl | (simp [*]; done) | (simp; omega))
    · have hm : min xs.length 120 = k := by have := HN.out; omega
      have hgb : greatB blocks xs = (decide (120 < (n : Int)) || decide (10000 < (gs xs k : Int)) || (decide (40 < blocks) && decide (blocks ≤ 4096))) := by
        unfold greatB
        rw [hm, ← HN.out]
        congr 1
        congr 1
        · exact decide_eq_decide.2 (by omega)
        · exact decide_eq_decide.2 (by omega)
      have HGB := Lib.hid hgb
      clear hgb hm
      go_wp2_with fail
      all_goals (
        go_ret
        refine ⟨?_, rfl⟩
        rw [HGB.out]
        refine congrArg (fun x => Ending.returned (Value.bool x)) ?_
        clear HGB HG HN
        first | rfl | (simp [*]; done) | (simp; omega))
end Go.Proofs.Ytkdphgcbecldbaa
