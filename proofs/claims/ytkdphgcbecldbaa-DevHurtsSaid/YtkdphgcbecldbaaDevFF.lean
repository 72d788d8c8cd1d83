/- The law DevHurts (8), at every input. -/
import Derived.Test.YtkdphgcbecldbaaDevEE
namespace Go.Proofs.Ytkdphgcbecldbaa
open Go.RowKit
theorem devhurts_any (blocks n bit : Int) (m : Nat) (A : Option Addr) (len c : Nat) (l : List Nat) (w : World) (hb : Bs w w.heap.size ⟨A, len, c⟩ l) (hm : m < 4294967296) :
    Calls Try.prog 8 #[.int .i64 blocks, .int .i64 n, .int .i64 bit, .int .u32 m, .slice A len c] w fun r w' => r = .returned (.bool true) ∧ Gr w w' := by
  by_cases h : blocks < 1 ∨ 40 < blocks ∨ 256 < len
  · exact hurts_out blocks n bit m A len c w h
  · obtain ⟨k, rfl⟩ : ∃ k : Nat, blocks = (k : Int) := ⟨blocks.toNat, by omega⟩
    exact hurts_in k n bit m A len c l w hb (by omega) (by omega) (by omega) hm
end Go.Proofs.Ytkdphgcbecldbaa
