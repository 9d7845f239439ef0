/-
  No cell of these rows narrows 'for every input' (looked for: loops, veiled, ifaces, maps, wideKeys, modest, calm, conditions, laid).
  DERIVED. THE GIVEN ROWS OF THIS SEAT. 11 by the template 'for every input the law returns true; each argument reads behind the call as it read before'; 0 by the template 'total and deterministic' (their statements: YtclhdhgagjpicaaTotals.lean).
  GIVEN WITH THE SEED: the statements are not yours to turn. If you find one false, say at which input.
  Laid BY PROGRAM, IN A SANDBOX (cutbox-rows.mjs): the forced cells as the released guide's own fill.sh prints them over the translation e3d57c1e9f25de4c… (all of the seat's roots in one cut). By AI agents, Wed Nov 11 2026. No macro, syntax, notation, axiom, sorry.
-/
import Derived.Test.YtclhdhgagjpicaaChecked
import GoSem.Claim
import GoSem.ClaimJoined
import GoSem.ClaimMapViews
import Derived.JoinedTies
import Derived.KernelRfl
namespace Go.Proofs.Ytclhdhgagjpicaa
/- THE CELL 'sum', in the pinned program and in every row, IS THE sha256 OF THE DUMP (.gsa) THAT YtclhdhgagjpicaaProg.lean LOADS. Nothing in Lean hashes anything: it is a label: what it is worth is what the hold of that sum in a sandbox is worth. -/
noncomputable def Try.pinned : Pinned := { name := "ytclhdhgagjpicaa", sum := "e3d57c1e9f25de4ca599ed9c2efd164e7caf4c17450a6b1a6aad5338fbd5551d", checked := Try.checked }
namespace Rows
def none {H : Type} : Left H := { results := [], args := [] }

/-- 'wakemanlaw09.GapCover': WHATEVER THE INPUT: true; the input reads as it did. -/
def gapCoverSpec : ChangeSpec := { name := "gapCover", fn := fun _ => fun
  | [d1, d2, d3] => { results := [.lit (.bool true)], args := [d1, d2, d3] }
  | _ => none }
def gapCoverRow : OpenClaim := { program := "ytclhdhgagjpicaa", sum := "e3d57c1e9f25de4ca599ed9c2efd164e7caf4c17450a6b1a6aad5338fbd5551d", func := "wakeman/wakemanlaw09.GapCover", spec := "gapCover", unfollowed := true, recurses := true, apart := false }
def GapCoverSaid : Prop := gapCoverRow.holds Try.pinned (OpenSpec.ofChange gapCoverSpec)

/-- ITS FALSE NEIGHBOUR: 'it returns false'. Refute it at one input. -/
def gapCoverWrong : ChangeSpec := { name := "gapCover", fn := fun _ => fun
  | [d1, d2, d3] => { results := [.lit (.bool false)], args := [d1, d2, d3] }
  | _ => none }
def GapCoverWrongFalsely : Prop := gapCoverRow.holds Try.pinned (OpenSpec.ofChange gapCoverWrong)

/-- 'wakemanlaw09.GapNearest': WHATEVER THE INPUT: true; the input reads as it did. -/
def gapNearestSpec : ChangeSpec := { name := "gapNearest", fn := fun _ => fun
  | [d1, d2, d3, d4] => { results := [.lit (.bool true)], args := [d1, d2, d3, d4] }
  | _ => none }
def gapNearestRow : OpenClaim := { program := "ytclhdhgagjpicaa", sum := "e3d57c1e9f25de4ca599ed9c2efd164e7caf4c17450a6b1a6aad5338fbd5551d", func := "wakeman/wakemanlaw09.GapNearest", spec := "gapNearest", unfollowed := true, recurses := true, apart := false }
def GapNearestSaid : Prop := gapNearestRow.holds Try.pinned (OpenSpec.ofChange gapNearestSpec)

/-- ITS FALSE NEIGHBOUR: 'it returns false'. Refute it at one input. -/
def gapNearestWrong : ChangeSpec := { name := "gapNearest", fn := fun _ => fun
  | [d1, d2, d3, d4] => { results := [.lit (.bool false)], args := [d1, d2, d3, d4] }
  | _ => none }
def GapNearestWrongFalsely : Prop := gapNearestRow.holds Try.pinned (OpenSpec.ofChange gapNearestWrong)

/-- 'wakemanlaw09.GapMany': WHATEVER THE INPUT: true; the input reads as it did. -/
def gapManySpec : ChangeSpec := { name := "gapMany", fn := fun _ => fun
  | [d] => { results := [.lit (.bool true)], args := [d] }
  | _ => none }
def gapManyRow : OpenClaim := { program := "ytclhdhgagjpicaa", sum := "e3d57c1e9f25de4ca599ed9c2efd164e7caf4c17450a6b1a6aad5338fbd5551d", func := "wakeman/wakemanlaw09.GapMany", spec := "gapMany", unfollowed := true, recurses := true, apart := false }
def GapManySaid : Prop := gapManyRow.holds Try.pinned (OpenSpec.ofChange gapManySpec)

/-- ITS FALSE NEIGHBOUR: 'it returns false'. Refute it at one input. -/
def gapManyWrong : ChangeSpec := { name := "gapMany", fn := fun _ => fun
  | [d] => { results := [.lit (.bool false)], args := [d] }
  | _ => none }
def GapManyWrongFalsely : Prop := gapManyRow.holds Try.pinned (OpenSpec.ofChange gapManyWrong)

/-- 'wakemanlaw09.GapMosts': WHATEVER THE INPUT: true; the input reads as it did. -/
def gapMostsSpec : ChangeSpec := { name := "gapMosts", fn := fun _ => fun
  | [d1, d2] => { results := [.lit (.bool true)], args := [d1, d2] }
  | _ => none }
def gapMostsRow : OpenClaim := { program := "ytclhdhgagjpicaa", sum := "e3d57c1e9f25de4ca599ed9c2efd164e7caf4c17450a6b1a6aad5338fbd5551d", func := "wakeman/wakemanlaw09.GapMosts", spec := "gapMosts", unfollowed := true, recurses := true, apart := false }
def GapMostsSaid : Prop := gapMostsRow.holds Try.pinned (OpenSpec.ofChange gapMostsSpec)

/-- ITS FALSE NEIGHBOUR: 'it returns false'. Refute it at one input. -/
def gapMostsWrong : ChangeSpec := { name := "gapMosts", fn := fun _ => fun
  | [d1, d2] => { results := [.lit (.bool false)], args := [d1, d2] }
  | _ => none }
def GapMostsWrongFalsely : Prop := gapMostsRow.holds Try.pinned (OpenSpec.ofChange gapMostsWrong)

/-- 'wakemanlaw09.GapCovers': WHATEVER THE INPUT: true; the input reads as it did. -/
def gapCoversSpec : ChangeSpec := { name := "gapCovers", fn := fun _ => fun
  | [d1, d2] => { results := [.lit (.bool true)], args := [d1, d2] }
  | _ => none }
def gapCoversRow : OpenClaim := { program := "ytclhdhgagjpicaa", sum := "e3d57c1e9f25de4ca599ed9c2efd164e7caf4c17450a6b1a6aad5338fbd5551d", func := "wakeman/wakemanlaw09.GapCovers", spec := "gapCovers", unfollowed := true, recurses := true, apart := false }
def GapCoversSaid : Prop := gapCoversRow.holds Try.pinned (OpenSpec.ofChange gapCoversSpec)

/-- ITS FALSE NEIGHBOUR: 'it returns false'. Refute it at one input. -/
def gapCoversWrong : ChangeSpec := { name := "gapCovers", fn := fun _ => fun
  | [d1, d2] => { results := [.lit (.bool false)], args := [d1, d2] }
  | _ => none }
def GapCoversWrongFalsely : Prop := gapCoversRow.holds Try.pinned (OpenSpec.ofChange gapCoversWrong)

/-- 'wakemanlaw09.GapNears': WHATEVER THE INPUT: true; the input reads as it did. -/
def gapNearsSpec : ChangeSpec := { name := "gapNears", fn := fun _ => fun
  | [d1, d2] => { results := [.lit (.bool true)], args := [d1, d2] }
  | _ => none }
def gapNearsRow : OpenClaim := { program := "ytclhdhgagjpicaa", sum := "e3d57c1e9f25de4ca599ed9c2efd164e7caf4c17450a6b1a6aad5338fbd5551d", func := "wakeman/wakemanlaw09.GapNears", spec := "gapNears", unfollowed := true, recurses := true, apart := false }
def GapNearsSaid : Prop := gapNearsRow.holds Try.pinned (OpenSpec.ofChange gapNearsSpec)

/-- ITS FALSE NEIGHBOUR: 'it returns false'. Refute it at one input. -/
def gapNearsWrong : ChangeSpec := { name := "gapNears", fn := fun _ => fun
  | [d1, d2] => { results := [.lit (.bool false)], args := [d1, d2] }
  | _ => none }
def GapNearsWrongFalsely : Prop := gapNearsRow.holds Try.pinned (OpenSpec.ofChange gapNearsWrong)

/-- 'wakemanlaw09.GapWindows': WHATEVER THE INPUT: true; the input reads as it did. -/
def gapWindowsSpec : ChangeSpec := { name := "gapWindows", fn := fun _ => fun
  | [d1, d2, d3, d4] => { results := [.lit (.bool true)], args := [d1, d2, d3, d4] }
  | _ => none }
def gapWindowsRow : OpenClaim := { program := "ytclhdhgagjpicaa", sum := "e3d57c1e9f25de4ca599ed9c2efd164e7caf4c17450a6b1a6aad5338fbd5551d", func := "wakeman/wakemanlaw09.GapWindows", spec := "gapWindows", unfollowed := true, recurses := true, apart := false }
def GapWindowsSaid : Prop := gapWindowsRow.holds Try.pinned (OpenSpec.ofChange gapWindowsSpec)

/-- ITS FALSE NEIGHBOUR: 'it returns false'. Refute it at one input. -/
def gapWindowsWrong : ChangeSpec := { name := "gapWindows", fn := fun _ => fun
  | [d1, d2, d3, d4] => { results := [.lit (.bool false)], args := [d1, d2, d3, d4] }
  | _ => none }
def GapWindowsWrongFalsely : Prop := gapWindowsRow.holds Try.pinned (OpenSpec.ofChange gapWindowsWrong)

/-- 'wakemanlaw09.GapSums': WHATEVER THE INPUT: true; the input reads as it did. -/
def gapSumsSpec : ChangeSpec := { name := "gapSums", fn := fun _ => fun
  | [d1, d2] => { results := [.lit (.bool true)], args := [d1, d2] }
  | _ => none }
def gapSumsRow : OpenClaim := { program := "ytclhdhgagjpicaa", sum := "e3d57c1e9f25de4ca599ed9c2efd164e7caf4c17450a6b1a6aad5338fbd5551d", func := "wakeman/wakemanlaw09.GapSums", spec := "gapSums", unfollowed := true, recurses := true, apart := false }
def GapSumsSaid : Prop := gapSumsRow.holds Try.pinned (OpenSpec.ofChange gapSumsSpec)

/-- ITS FALSE NEIGHBOUR: 'it returns false'. Refute it at one input. -/
def gapSumsWrong : ChangeSpec := { name := "gapSums", fn := fun _ => fun
  | [d1, d2] => { results := [.lit (.bool false)], args := [d1, d2] }
  | _ => none }
def GapSumsWrongFalsely : Prop := gapSumsRow.holds Try.pinned (OpenSpec.ofChange gapSumsWrong)

/-- 'wakemanlaw09.GapSets': WHATEVER THE INPUT: true; the input reads as it did. -/
def gapSetsSpec : ChangeSpec := { name := "gapSets", fn := fun _ => fun
  | [d1, d2, d3, d4] => { results := [.lit (.bool true)], args := [d1, d2, d3, d4] }
  | _ => none }
def gapSetsRow : OpenClaim := { program := "ytclhdhgagjpicaa", sum := "e3d57c1e9f25de4ca599ed9c2efd164e7caf4c17450a6b1a6aad5338fbd5551d", func := "wakeman/wakemanlaw09.GapSets", spec := "gapSets", unfollowed := true, recurses := true, apart := false }
def GapSetsSaid : Prop := gapSetsRow.holds Try.pinned (OpenSpec.ofChange gapSetsSpec)

/-- ITS FALSE NEIGHBOUR: 'it returns false'. Refute it at one input. -/
def gapSetsWrong : ChangeSpec := { name := "gapSets", fn := fun _ => fun
  | [d1, d2, d3, d4] => { results := [.lit (.bool false)], args := [d1, d2, d3, d4] }
  | _ => none }
def GapSetsWrongFalsely : Prop := gapSetsRow.holds Try.pinned (OpenSpec.ofChange gapSetsWrong)

/-- 'wakemanlaw09.GapMerges': WHATEVER THE INPUT: true; the input reads as it did. -/
def gapMergesSpec : ChangeSpec := { name := "gapMerges", fn := fun _ => fun
  | [d1, d2] => { results := [.lit (.bool true)], args := [d1, d2] }
  | _ => none }
def gapMergesRow : OpenClaim := { program := "ytclhdhgagjpicaa", sum := "e3d57c1e9f25de4ca599ed9c2efd164e7caf4c17450a6b1a6aad5338fbd5551d", func := "wakeman/wakemanlaw09.GapMerges", spec := "gapMerges", unfollowed := true, recurses := true, apart := false }
def GapMergesSaid : Prop := gapMergesRow.holds Try.pinned (OpenSpec.ofChange gapMergesSpec)

/-- ITS FALSE NEIGHBOUR: 'it returns false'. Refute it at one input. -/
def gapMergesWrong : ChangeSpec := { name := "gapMerges", fn := fun _ => fun
  | [d1, d2] => { results := [.lit (.bool false)], args := [d1, d2] }
  | _ => none }
def GapMergesWrongFalsely : Prop := gapMergesRow.holds Try.pinned (OpenSpec.ofChange gapMergesWrong)

/-- 'wakemanlaw09.GapLeasts': WHATEVER THE INPUT: true; the input reads as it did. -/
def gapLeastsSpec : ChangeSpec := { name := "gapLeasts", fn := fun _ => fun
  | [d] => { results := [.lit (.bool true)], args := [d] }
  | _ => none }
def gapLeastsRow : OpenClaim := { program := "ytclhdhgagjpicaa", sum := "e3d57c1e9f25de4ca599ed9c2efd164e7caf4c17450a6b1a6aad5338fbd5551d", func := "wakeman/wakemanlaw09.GapLeasts", spec := "gapLeasts", unfollowed := true, recurses := true, apart := false }
def GapLeastsSaid : Prop := gapLeastsRow.holds Try.pinned (OpenSpec.ofChange gapLeastsSpec)

/-- ITS FALSE NEIGHBOUR: 'it returns false'. Refute it at one input. -/
def gapLeastsWrong : ChangeSpec := { name := "gapLeasts", fn := fun _ => fun
  | [d] => { results := [.lit (.bool false)], args := [d] }
  | _ => none }
def GapLeastsWrongFalsely : Prop := gapLeastsRow.holds Try.pinned (OpenSpec.ofChange gapLeastsWrong)

/- THE SECOND FORM. 'bulk': how many values and letters a reading holds, each counted each time it is reached (what is shared counts as often as it is met; a slice's spare places count too). A statement '..UptoSaid' is the law's where the arguments, and the package variables that the reading takes, are together of bulk at most 1048576: NARROWER than '..Said'. Prove '..Said' where nothing that the law and all that it calls make is longer than what came in: it says more and counts as full. Else prove '..UptoSaid'. A law counts once. -/
mutual
def uptoBulk {H : Type} : DataW H → Nat
  | .lit (.string bytes) => bytes.length + 1
  | .lit _ => 1
  | .nil => 1
  | .ptr d => uptoBulk d + 1
  | .slice elems spare => uptoBulkAll elems + uptoBulkAll spare + 1
  | .agg parts => uptoBulkAll parts + 1
  | .iface _ d => uptoBulk d + 1
  | .map entries => uptoBulkEntries entries + 1
  | .held _ => 1
def uptoBulkAll {H : Type} : List (DataW H) → Nat
  | [] => 0
  | d :: r => uptoBulk d + uptoBulkAll r
def uptoBulkEntries {H : Type} : List (Lit × DataW H) → Nat
  | [] => 0
  | x :: r => uptoBulkEntry x + uptoBulkEntries r
def uptoBulkEntry {H : Type} : Lit × DataW H → Nat
  | (.string bytes, d) => bytes.length + uptoBulk d + 1
  | (_, d) => uptoBulk d + 1
 end
def uptoSmall : (H : Type) → List (DataW H) → Bool := fun _ ds => decide (uptoBulkAll ds ≤ 1048576)
def OpenSpec.upto (s : _root_.Go.ChangeSpec) : _root_.Go.OpenSpec := { _root_.Go.OpenSpec.ofChange s with cond := some uptoSmall }

/-- 'wakemanlaw09.GapCover', WHERE WHAT IT READS IS OF BULK AT MOST 1048576: true; the input reads as it did. -/
def gapCoverUptoRow : OpenClaim := { program := "ytclhdhgagjpicaa", sum := "e3d57c1e9f25de4ca599ed9c2efd164e7caf4c17450a6b1a6aad5338fbd5551d", func := "wakeman/wakemanlaw09.GapCover", spec := "gapCover", unfollowed := true, recurses := true, apart := false, narrowed := true }
def GapCoverUptoSaid : Prop := gapCoverUptoRow.holds Try.pinned (OpenSpec.upto gapCoverSpec)

/-- 'wakemanlaw09.GapNearest', WHERE WHAT IT READS IS OF BULK AT MOST 1048576: true; the input reads as it did. -/
def gapNearestUptoRow : OpenClaim := { program := "ytclhdhgagjpicaa", sum := "e3d57c1e9f25de4ca599ed9c2efd164e7caf4c17450a6b1a6aad5338fbd5551d", func := "wakeman/wakemanlaw09.GapNearest", spec := "gapNearest", unfollowed := true, recurses := true, apart := false, narrowed := true }
def GapNearestUptoSaid : Prop := gapNearestUptoRow.holds Try.pinned (OpenSpec.upto gapNearestSpec)

/-- 'wakemanlaw09.GapMany', WHERE WHAT IT READS IS OF BULK AT MOST 1048576: true; the input reads as it did. -/
def gapManyUptoRow : OpenClaim := { program := "ytclhdhgagjpicaa", sum := "e3d57c1e9f25de4ca599ed9c2efd164e7caf4c17450a6b1a6aad5338fbd5551d", func := "wakeman/wakemanlaw09.GapMany", spec := "gapMany", unfollowed := true, recurses := true, apart := false, narrowed := true }
def GapManyUptoSaid : Prop := gapManyUptoRow.holds Try.pinned (OpenSpec.upto gapManySpec)

/-- 'wakemanlaw09.GapMosts', WHERE WHAT IT READS IS OF BULK AT MOST 1048576: true; the input reads as it did. -/
def gapMostsUptoRow : OpenClaim := { program := "ytclhdhgagjpicaa", sum := "e3d57c1e9f25de4ca599ed9c2efd164e7caf4c17450a6b1a6aad5338fbd5551d", func := "wakeman/wakemanlaw09.GapMosts", spec := "gapMosts", unfollowed := true, recurses := true, apart := false, narrowed := true }
def GapMostsUptoSaid : Prop := gapMostsUptoRow.holds Try.pinned (OpenSpec.upto gapMostsSpec)

/-- 'wakemanlaw09.GapCovers', WHERE WHAT IT READS IS OF BULK AT MOST 1048576: true; the input reads as it did. -/
def gapCoversUptoRow : OpenClaim := { program := "ytclhdhgagjpicaa", sum := "e3d57c1e9f25de4ca599ed9c2efd164e7caf4c17450a6b1a6aad5338fbd5551d", func := "wakeman/wakemanlaw09.GapCovers", spec := "gapCovers", unfollowed := true, recurses := true, apart := false, narrowed := true }
def GapCoversUptoSaid : Prop := gapCoversUptoRow.holds Try.pinned (OpenSpec.upto gapCoversSpec)

/-- 'wakemanlaw09.GapNears', WHERE WHAT IT READS IS OF BULK AT MOST 1048576: true; the input reads as it did. -/
def gapNearsUptoRow : OpenClaim := { program := "ytclhdhgagjpicaa", sum := "e3d57c1e9f25de4ca599ed9c2efd164e7caf4c17450a6b1a6aad5338fbd5551d", func := "wakeman/wakemanlaw09.GapNears", spec := "gapNears", unfollowed := true, recurses := true, apart := false, narrowed := true }
def GapNearsUptoSaid : Prop := gapNearsUptoRow.holds Try.pinned (OpenSpec.upto gapNearsSpec)

/-- 'wakemanlaw09.GapWindows', WHERE WHAT IT READS IS OF BULK AT MOST 1048576: true; the input reads as it did. -/
def gapWindowsUptoRow : OpenClaim := { program := "ytclhdhgagjpicaa", sum := "e3d57c1e9f25de4ca599ed9c2efd164e7caf4c17450a6b1a6aad5338fbd5551d", func := "wakeman/wakemanlaw09.GapWindows", spec := "gapWindows", unfollowed := true, recurses := true, apart := false, narrowed := true }
def GapWindowsUptoSaid : Prop := gapWindowsUptoRow.holds Try.pinned (OpenSpec.upto gapWindowsSpec)

/-- 'wakemanlaw09.GapSums', WHERE WHAT IT READS IS OF BULK AT MOST 1048576: true; the input reads as it did. -/
def gapSumsUptoRow : OpenClaim := { program := "ytclhdhgagjpicaa", sum := "e3d57c1e9f25de4ca599ed9c2efd164e7caf4c17450a6b1a6aad5338fbd5551d", func := "wakeman/wakemanlaw09.GapSums", spec := "gapSums", unfollowed := true, recurses := true, apart := false, narrowed := true }
def GapSumsUptoSaid : Prop := gapSumsUptoRow.holds Try.pinned (OpenSpec.upto gapSumsSpec)

/-- 'wakemanlaw09.GapSets', WHERE WHAT IT READS IS OF BULK AT MOST 1048576: true; the input reads as it did. -/
def gapSetsUptoRow : OpenClaim := { program := "ytclhdhgagjpicaa", sum := "e3d57c1e9f25de4ca599ed9c2efd164e7caf4c17450a6b1a6aad5338fbd5551d", func := "wakeman/wakemanlaw09.GapSets", spec := "gapSets", unfollowed := true, recurses := true, apart := false, narrowed := true }
def GapSetsUptoSaid : Prop := gapSetsUptoRow.holds Try.pinned (OpenSpec.upto gapSetsSpec)

/-- 'wakemanlaw09.GapMerges', WHERE WHAT IT READS IS OF BULK AT MOST 1048576: true; the input reads as it did. -/
def gapMergesUptoRow : OpenClaim := { program := "ytclhdhgagjpicaa", sum := "e3d57c1e9f25de4ca599ed9c2efd164e7caf4c17450a6b1a6aad5338fbd5551d", func := "wakeman/wakemanlaw09.GapMerges", spec := "gapMerges", unfollowed := true, recurses := true, apart := false, narrowed := true }
def GapMergesUptoSaid : Prop := gapMergesUptoRow.holds Try.pinned (OpenSpec.upto gapMergesSpec)

/-- 'wakemanlaw09.GapLeasts', WHERE WHAT IT READS IS OF BULK AT MOST 1048576: true; the input reads as it did. -/
def gapLeastsUptoRow : OpenClaim := { program := "ytclhdhgagjpicaa", sum := "e3d57c1e9f25de4ca599ed9c2efd164e7caf4c17450a6b1a6aad5338fbd5551d", func := "wakeman/wakemanlaw09.GapLeasts", spec := "gapLeasts", unfollowed := true, recurses := true, apart := false, narrowed := true }
def GapLeastsUptoSaid : Prop := gapLeastsUptoRow.holds Try.pinned (OpenSpec.upto gapLeastsSpec)

end Rows
end Go.Proofs.Ytclhdhgagjpicaa
