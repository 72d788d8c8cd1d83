/-
  No cell of these rows narrows 'for every input' (looked for: loops, veiled, ifaces, maps, wideKeys, modest, calm, conditions, laid).
  DERIVED. THE GIVEN ROWS OF THIS SEAT. 8 by the template 'for every input the law returns true; each argument reads behind the call as it read before'; 0 by the template 'total and deterministic' (their statements: YtkdphgcbecldbaaTotals.lean).
  GIVEN WITH THE SEED: the statements are not yours to turn. If you find one false, say at which input.
  Laid BY PROGRAM, IN A SANDBOX (cutbox-rows.mjs): the forced cells as the released guide's own fill.sh prints them over the translation ee36ff3e5568fd0b… (all of the seat's roots in one cut). By AI agents, Wed Nov 11 2026. No macro, syntax, notation, axiom, sorry.
-/
import Derived.Test.YtkdphgcbecldbaaChecked
import GoSem.Claim
import GoSem.ClaimJoined
import GoSem.ClaimMapViews
import Derived.JoinedTies
import Derived.KernelRfl
namespace Go.Proofs.Ytkdphgcbecldbaa
/- THE CELL 'sum', in the pinned program and in every row, IS THE sha256 OF THE DUMP (.gsa) THAT YtkdphgcbecldbaaProg.lean LOADS. Nothing in Lean hashes anything: it is a label: what it is worth is what the hold of that sum in a sandbox is worth. -/
noncomputable def Try.pinned : Pinned := { name := "ytkdphgcbecldbaa", sum := "ee36ff3e5568fd0b95920163417b77a073428bd3834099fd80be0d5d6d5ac81c", checked := Try.checked }
namespace Rows
def none {H : Type} : Left H := { results := [], args := [] }

/-- 'limpetlaw01.MixTells': WHATEVER THE INPUT: true; the input reads as it did. -/
def mixTellsSpec : ChangeSpec := { name := "mixTells", fn := fun _ => fun
  | [d1, d2, d3, d4] => { results := [.lit (.bool true)], args := [d1, d2, d3, d4] }
  | _ => none }
def mixTellsRow : OpenClaim := { program := "ytkdphgcbecldbaa", sum := "ee36ff3e5568fd0b95920163417b77a073428bd3834099fd80be0d5d6d5ac81c", func := "limpet/limpetlaw01.MixTells", spec := "mixTells", inPlace := ["internal/reflectlite.TypeOf"], unfollowed := true, recurses := true, apart := false }
def MixTellsSaid : Prop := mixTellsRow.holds Try.pinned (OpenSpec.ofChange mixTellsSpec)

/-- ITS FALSE NEIGHBOUR: 'it returns false'. Refute it at one input. -/
def mixTellsWrong : ChangeSpec := { name := "mixTells", fn := fun _ => fun
  | [d1, d2, d3, d4] => { results := [.lit (.bool false)], args := [d1, d2, d3, d4] }
  | _ => none }
def MixTellsWrongFalsely : Prop := mixTellsRow.holds Try.pinned (OpenSpec.ofChange mixTellsWrong)

/-- 'limpetlaw01.MixEnds': WHATEVER THE INPUT: true; the input reads as it did. -/
def mixEndsSpec : ChangeSpec := { name := "mixEnds", fn := fun _ => fun
  | [] => { results := [.lit (.bool true)], args := [] }
  | _ => none }
def mixEndsRow : OpenClaim := { program := "ytkdphgcbecldbaa", sum := "ee36ff3e5568fd0b95920163417b77a073428bd3834099fd80be0d5d6d5ac81c", func := "limpet/limpetlaw01.MixEnds", spec := "mixEnds", inPlace := ["internal/reflectlite.TypeOf"], unfollowed := true, recurses := true, apart := false }
def MixEndsSaid : Prop := mixEndsRow.holds Try.pinned (OpenSpec.ofChange mixEndsSpec)

/-- ITS FALSE NEIGHBOUR: 'it returns false'. Refute it at one input. -/
def mixEndsWrong : ChangeSpec := { name := "mixEnds", fn := fun _ => fun
  | [] => { results := [.lit (.bool false)], args := [] }
  | _ => none }
def MixEndsWrongFalsely : Prop := mixEndsRow.holds Try.pinned (OpenSpec.ofChange mixEndsWrong)

/-- 'limpetlaw01.MixRuns': WHATEVER THE INPUT: true; the input reads as it did. -/
def mixRunsSpec : ChangeSpec := { name := "mixRuns", fn := fun _ => fun
  | [d1, d2, d3] => { results := [.lit (.bool true)], args := [d1, d2, d3] }
  | _ => none }
def mixRunsRow : OpenClaim := { program := "ytkdphgcbecldbaa", sum := "ee36ff3e5568fd0b95920163417b77a073428bd3834099fd80be0d5d6d5ac81c", func := "limpet/limpetlaw01.MixRuns", spec := "mixRuns", inPlace := ["internal/reflectlite.TypeOf"], unfollowed := true, recurses := true, apart := false }
def MixRunsSaid : Prop := mixRunsRow.holds Try.pinned (OpenSpec.ofChange mixRunsSpec)

/-- ITS FALSE NEIGHBOUR: 'it returns false'. Refute it at one input. -/
def mixRunsWrong : ChangeSpec := { name := "mixRuns", fn := fun _ => fun
  | [d1, d2, d3] => { results := [.lit (.bool false)], args := [d1, d2, d3] }
  | _ => none }
def MixRunsWrongFalsely : Prop := mixRunsRow.holds Try.pinned (OpenSpec.ofChange mixRunsWrong)

/-- 'limpetlaw01.MixParts': WHATEVER THE INPUT: true; the input reads as it did. -/
def mixPartsSpec : ChangeSpec := { name := "mixParts", fn := fun _ => fun
  | [d1, d2, d3] => { results := [.lit (.bool true)], args := [d1, d2, d3] }
  | _ => none }
def mixPartsRow : OpenClaim := { program := "ytkdphgcbecldbaa", sum := "ee36ff3e5568fd0b95920163417b77a073428bd3834099fd80be0d5d6d5ac81c", func := "limpet/limpetlaw01.MixParts", spec := "mixParts", inPlace := ["internal/reflectlite.TypeOf"], unfollowed := true, recurses := true, apart := false }
def MixPartsSaid : Prop := mixPartsRow.holds Try.pinned (OpenSpec.ofChange mixPartsSpec)

/-- ITS FALSE NEIGHBOUR: 'it returns false'. Refute it at one input. -/
def mixPartsWrong : ChangeSpec := { name := "mixParts", fn := fun _ => fun
  | [d1, d2, d3] => { results := [.lit (.bool false)], args := [d1, d2, d3] }
  | _ => none }
def MixPartsWrongFalsely : Prop := mixPartsRow.holds Try.pinned (OpenSpec.ofChange mixPartsWrong)

/-- 'limpetlaw03.DevSynced': WHATEVER THE INPUT: true; the input reads as it did. -/
def devSyncedSpec : ChangeSpec := { name := "devSynced", fn := fun _ => fun
  | [d1, d2, d3, d4, d5, d6] => { results := [.lit (.bool true)], args := [d1, d2, d3, d4, d5, d6] }
  | _ => none }
def devSyncedRow : OpenClaim := { program := "ytkdphgcbecldbaa", sum := "ee36ff3e5568fd0b95920163417b77a073428bd3834099fd80be0d5d6d5ac81c", func := "limpet/limpetlaw03.DevSynced", spec := "devSynced", inPlace := ["internal/reflectlite.TypeOf"], unfollowed := true, recurses := true, apart := false }
def DevSyncedSaid : Prop := devSyncedRow.holds Try.pinned (OpenSpec.ofChange devSyncedSpec)

/-- ITS FALSE NEIGHBOUR: 'it returns false'. Refute it at one input. -/
def devSyncedWrong : ChangeSpec := { name := "devSynced", fn := fun _ => fun
  | [d1, d2, d3, d4, d5, d6] => { results := [.lit (.bool false)], args := [d1, d2, d3, d4, d5, d6] }
  | _ => none }
def DevSyncedWrongFalsely : Prop := devSyncedRow.holds Try.pinned (OpenSpec.ofChange devSyncedWrong)

/-- 'limpetlaw03.DevHurts': WHATEVER THE INPUT: true; the input reads as it did. -/
def devHurtsSpec : ChangeSpec := { name := "devHurts", fn := fun _ => fun
  | [d1, d2, d3, d4, d5] => { results := [.lit (.bool true)], args := [d1, d2, d3, d4, d5] }
  | _ => none }
def devHurtsRow : OpenClaim := { program := "ytkdphgcbecldbaa", sum := "ee36ff3e5568fd0b95920163417b77a073428bd3834099fd80be0d5d6d5ac81c", func := "limpet/limpetlaw03.DevHurts", spec := "devHurts", inPlace := ["internal/reflectlite.TypeOf"], unfollowed := true, recurses := true, apart := false }
def DevHurtsSaid : Prop := devHurtsRow.holds Try.pinned (OpenSpec.ofChange devHurtsSpec)

/-- ITS FALSE NEIGHBOUR: 'it returns false'. Refute it at one input. -/
def devHurtsWrong : ChangeSpec := { name := "devHurts", fn := fun _ => fun
  | [d1, d2, d3, d4, d5] => { results := [.lit (.bool false)], args := [d1, d2, d3, d4, d5] }
  | _ => none }
def DevHurtsWrongFalsely : Prop := devHurtsRow.holds Try.pinned (OpenSpec.ofChange devHurtsWrong)

/-- 'limpetlaw03.DevDoes': WHATEVER THE INPUT: true; the input reads as it did. -/
def devDoesSpec : ChangeSpec := { name := "devDoes", fn := fun _ => fun
  | [d1, d2] => { results := [.lit (.bool true)], args := [d1, d2] }
  | _ => none }
def devDoesRow : OpenClaim := { program := "ytkdphgcbecldbaa", sum := "ee36ff3e5568fd0b95920163417b77a073428bd3834099fd80be0d5d6d5ac81c", func := "limpet/limpetlaw03.DevDoes", spec := "devDoes", inPlace := ["internal/reflectlite.TypeOf"], unfollowed := true, recurses := true, apart := false }
def DevDoesSaid : Prop := devDoesRow.holds Try.pinned (OpenSpec.ofChange devDoesSpec)

/-- ITS FALSE NEIGHBOUR: 'it returns false'. Refute it at one input. -/
def devDoesWrong : ChangeSpec := { name := "devDoes", fn := fun _ => fun
  | [d1, d2] => { results := [.lit (.bool false)], args := [d1, d2] }
  | _ => none }
def DevDoesWrongFalsely : Prop := devDoesRow.holds Try.pinned (OpenSpec.ofChange devDoesWrong)

/-- 'limpetlaw03.DevWakes': WHATEVER THE INPUT: true; the input reads as it did. -/
def devWakesSpec : ChangeSpec := { name := "devWakes", fn := fun _ => fun
  | [] => { results := [.lit (.bool true)], args := [] }
  | _ => none }
def devWakesRow : OpenClaim := { program := "ytkdphgcbecldbaa", sum := "ee36ff3e5568fd0b95920163417b77a073428bd3834099fd80be0d5d6d5ac81c", func := "limpet/limpetlaw03.DevWakes", spec := "devWakes", inPlace := ["internal/reflectlite.TypeOf"], unfollowed := true, recurses := true, apart := false }
def DevWakesSaid : Prop := devWakesRow.holds Try.pinned (OpenSpec.ofChange devWakesSpec)

/-- ITS FALSE NEIGHBOUR: 'it returns false'. Refute it at one input. -/
def devWakesWrong : ChangeSpec := { name := "devWakes", fn := fun _ => fun
  | [] => { results := [.lit (.bool false)], args := [] }
  | _ => none }
def DevWakesWrongFalsely : Prop := devWakesRow.holds Try.pinned (OpenSpec.ofChange devWakesWrong)

/- THE SECOND FORM. 'bulk': how many values and letters a reading holds, each counted each time it is reached (what is shared counts as often as it is met; a slice's spare places count too). A statement '..UptoSaid' is the law's where the arguments, and the package variables that the reading takes, are together of bulk at most 1048576: NARROWER than '..Said'. Prove '..Said' where nothing that the law and all that it calls make is longer than what came in: it says more and counts as full. Else prove '..UptoSaid'. A law counts once. -/
mutual
def uptoBulk {H : Type} : DataW H → Nat
  | .lit (.string bytes) => bytes.length + 1
  | .lit _ => 1
  | .nil => 1
  | .ptr d => uptoBulk d + 1
  | .slice elems spare => uptoBulkAll elems + uptoBulkAll spare + 1
  | .agg parts => uptoBulkAll parts + 1
  | .iface _ d => uptoBulk d + 1
  | .map entries => uptoBulkEntries entries + 1
  | .held _ => 1
def uptoBulkAll {H : Type} : List (DataW H) → Nat
  | [] => 0
  | d :: r => uptoBulk d + uptoBulkAll r
def uptoBulkEntries {H : Type} : List (Lit × DataW H) → Nat
  | [] => 0
  | x :: r => uptoBulkEntry x + uptoBulkEntries r
def uptoBulkEntry {H : Type} : Lit × DataW H → Nat
  | (.string bytes, d) => bytes.length + uptoBulk d + 1
  | (_, d) => uptoBulk d + 1
 end
def uptoSmall : (H : Type) → List (DataW H) → Bool := fun _ ds => decide (uptoBulkAll ds ≤ 1048576)
def OpenSpec.upto (s : _root_.Go.ChangeSpec) : _root_.Go.OpenSpec := { _root_.Go.OpenSpec.ofChange s with cond := some uptoSmall }

/-- 'limpetlaw01.MixTells', WHERE WHAT IT READS IS OF BULK AT MOST 1048576: true; the input reads as it did. -/
def mixTellsUptoRow : OpenClaim := { program := "ytkdphgcbecldbaa", sum := "ee36ff3e5568fd0b95920163417b77a073428bd3834099fd80be0d5d6d5ac81c", func := "limpet/limpetlaw01.MixTells", spec := "mixTells", inPlace := ["internal/reflectlite.TypeOf"], unfollowed := true, recurses := true, apart := false, narrowed := true }
def MixTellsUptoSaid : Prop := mixTellsUptoRow.holds Try.pinned (OpenSpec.upto mixTellsSpec)

/-- 'limpetlaw01.MixEnds', WHERE WHAT IT READS IS OF BULK AT MOST 1048576: true; the input reads as it did. -/
def mixEndsUptoRow : OpenClaim := { program := "ytkdphgcbecldbaa", sum := "ee36ff3e5568fd0b95920163417b77a073428bd3834099fd80be0d5d6d5ac81c", func := "limpet/limpetlaw01.MixEnds", spec := "mixEnds", inPlace := ["internal/reflectlite.TypeOf"], unfollowed := true, recurses := true, apart := false, narrowed := true }
def MixEndsUptoSaid : Prop := mixEndsUptoRow.holds Try.pinned (OpenSpec.upto mixEndsSpec)

/-- 'limpetlaw01.MixRuns', WHERE WHAT IT READS IS OF BULK AT MOST 1048576: true; the input reads as it did. -/
def mixRunsUptoRow : OpenClaim := { program := "ytkdphgcbecldbaa", sum := "ee36ff3e5568fd0b95920163417b77a073428bd3834099fd80be0d5d6d5ac81c", func := "limpet/limpetlaw01.MixRuns", spec := "mixRuns", inPlace := ["internal/reflectlite.TypeOf"], unfollowed := true, recurses := true, apart := false, narrowed := true }
def MixRunsUptoSaid : Prop := mixRunsUptoRow.holds Try.pinned (OpenSpec.upto mixRunsSpec)

/-- 'limpetlaw01.MixParts', WHERE WHAT IT READS IS OF BULK AT MOST 1048576: true; the input reads as it did. -/
def mixPartsUptoRow : OpenClaim := { program := "ytkdphgcbecldbaa", sum := "ee36ff3e5568fd0b95920163417b77a073428bd3834099fd80be0d5d6d5ac81c", func := "limpet/limpetlaw01.MixParts", spec := "mixParts", inPlace := ["internal/reflectlite.TypeOf"], unfollowed := true, recurses := true, apart := false, narrowed := true }
def MixPartsUptoSaid : Prop := mixPartsUptoRow.holds Try.pinned (OpenSpec.upto mixPartsSpec)

/-- 'limpetlaw03.DevSynced', WHERE WHAT IT READS IS OF BULK AT MOST 1048576: true; the input reads as it did. -/
def devSyncedUptoRow : OpenClaim := { program := "ytkdphgcbecldbaa", sum := "ee36ff3e5568fd0b95920163417b77a073428bd3834099fd80be0d5d6d5ac81c", func := "limpet/limpetlaw03.DevSynced", spec := "devSynced", inPlace := ["internal/reflectlite.TypeOf"], unfollowed := true, recurses := true, apart := false, narrowed := true }
def DevSyncedUptoSaid : Prop := devSyncedUptoRow.holds Try.pinned (OpenSpec.upto devSyncedSpec)

/-- 'limpetlaw03.DevHurts', WHERE WHAT IT READS IS OF BULK AT MOST 1048576: true; the input reads as it did. -/
def devHurtsUptoRow : OpenClaim := { program := "ytkdphgcbecldbaa", sum := "ee36ff3e5568fd0b95920163417b77a073428bd3834099fd80be0d5d6d5ac81c", func := "limpet/limpetlaw03.DevHurts", spec := "devHurts", inPlace := ["internal/reflectlite.TypeOf"], unfollowed := true, recurses := true, apart := false, narrowed := true }
def DevHurtsUptoSaid : Prop := devHurtsUptoRow.holds Try.pinned (OpenSpec.upto devHurtsSpec)

/-- 'limpetlaw03.DevDoes', WHERE WHAT IT READS IS OF BULK AT MOST 1048576: true; the input reads as it did. -/
def devDoesUptoRow : OpenClaim := { program := "ytkdphgcbecldbaa", sum := "ee36ff3e5568fd0b95920163417b77a073428bd3834099fd80be0d5d6d5ac81c", func := "limpet/limpetlaw03.DevDoes", spec := "devDoes", inPlace := ["internal/reflectlite.TypeOf"], unfollowed := true, recurses := true, apart := false, narrowed := true }
def DevDoesUptoSaid : Prop := devDoesUptoRow.holds Try.pinned (OpenSpec.upto devDoesSpec)

/-- 'limpetlaw03.DevWakes', WHERE WHAT IT READS IS OF BULK AT MOST 1048576: true; the input reads as it did. -/
def devWakesUptoRow : OpenClaim := { program := "ytkdphgcbecldbaa", sum := "ee36ff3e5568fd0b95920163417b77a073428bd3834099fd80be0d5d6d5ac81c", func := "limpet/limpetlaw03.DevWakes", spec := "devWakes", inPlace := ["internal/reflectlite.TypeOf"], unfollowed := true, recurses := true, apart := false, narrowed := true }
def DevWakesUptoSaid : Prop := devWakesUptoRow.holds Try.pinned (OpenSpec.upto devWakesSpec)

end Rows
end Go.Proofs.Ytkdphgcbecldbaa
