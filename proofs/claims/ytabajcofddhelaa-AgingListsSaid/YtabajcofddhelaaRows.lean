/-
  No cell of these rows narrows 'for every input' (looked for: loops, veiled, ifaces, maps, wideKeys, modest, calm, conditions, laid).
  DERIVED. THE GIVEN ROWS OF THIS SEAT. 9 by the template 'for every input the law returns true; each argument reads behind the call as it read before'; 0 by the template 'total and deterministic' (their statements: YtabajcofddhelaaTotals.lean).
  GIVEN WITH THE SEED: the statements are not yours to turn. If you find one false, say at which input.
  Laid BY PROGRAM, IN A SANDBOX (cutbox-rows.mjs): the forced cells as the released guide's own fill.sh prints them over the translation 1f5130b458d53a19… (all of the seat's roots in one cut). By AI agents, Wed Nov 11 2026. No macro, syntax, notation, axiom, sorry.
-/
import Derived.Test.YtabajcofddhelaaChecked
import GoSem.Claim
import GoSem.ClaimJoined
import GoSem.ClaimMapViews
import Derived.JoinedTies
import Derived.KernelRfl
namespace Go.Proofs.Ytabajcofddhelaa
/- THE CELL 'sum', in the pinned program and in every row, IS THE sha256 OF THE DUMP (.gsa) THAT YtabajcofddhelaaProg.lean LOADS. Nothing in Lean hashes anything: it is a label: what it is worth is what the hold of that sum in a sandbox is worth. -/
noncomputable def Try.pinned : Pinned := { name := "ytabajcofddhelaa", sum := "1f5130b458d53a198d6bb6a2cb894e0672aa22077008f89f0076228eea765361", checked := Try.checked }
namespace Rows
def none {H : Type} : Left H := { results := [], args := [] }

/-- 'wakemanlaw20.AgingKeys': WHATEVER THE INPUT: true; the input reads as it did. -/
def agingKeysSpec : ChangeSpec := { name := "agingKeys", fn := fun _ => fun
  | [d1, d2, d3] => { results := [.lit (.bool true)], args := [d1, d2, d3] }
  | _ => none }
def agingKeysRow : OpenClaim := { program := "ytabajcofddhelaa", sum := "1f5130b458d53a198d6bb6a2cb894e0672aa22077008f89f0076228eea765361", func := "wakeman/wakemanlaw20.AgingKeys", spec := "agingKeys", unfollowed := true, recurses := true, apart := false }
def AgingKeysSaid : Prop := agingKeysRow.holds Try.pinned (OpenSpec.ofChange agingKeysSpec)

/-- ITS FALSE NEIGHBOUR: 'it returns false'. Refute it at one input. -/
def agingKeysWrong : ChangeSpec := { name := "agingKeys", fn := fun _ => fun
  | [d1, d2, d3] => { results := [.lit (.bool false)], args := [d1, d2, d3] }
  | _ => none }
def AgingKeysWrongFalsely : Prop := agingKeysRow.holds Try.pinned (OpenSpec.ofChange agingKeysWrong)

/-- 'wakemanlaw20.AgingPairs': WHATEVER THE INPUT: true; the input reads as it did. -/
def agingPairsSpec : ChangeSpec := { name := "agingPairs", fn := fun _ => fun
  | [d1, d2, d3] => { results := [.lit (.bool true)], args := [d1, d2, d3] }
  | _ => none }
def agingPairsRow : OpenClaim := { program := "ytabajcofddhelaa", sum := "1f5130b458d53a198d6bb6a2cb894e0672aa22077008f89f0076228eea765361", func := "wakeman/wakemanlaw20.AgingPairs", spec := "agingPairs", unfollowed := true, recurses := true, apart := false }
def AgingPairsSaid : Prop := agingPairsRow.holds Try.pinned (OpenSpec.ofChange agingPairsSpec)

/-- ITS FALSE NEIGHBOUR: 'it returns false'. Refute it at one input. -/
def agingPairsWrong : ChangeSpec := { name := "agingPairs", fn := fun _ => fun
  | [d1, d2, d3] => { results := [.lit (.bool false)], args := [d1, d2, d3] }
  | _ => none }
def AgingPairsWrongFalsely : Prop := agingPairsRow.holds Try.pinned (OpenSpec.ofChange agingPairsWrong)

/-- 'wakemanlaw20.AgingOrders': WHATEVER THE INPUT: true; the input reads as it did. -/
def agingOrdersSpec : ChangeSpec := { name := "agingOrders", fn := fun _ => fun
  | [d1, d2, d3, d4] => { results := [.lit (.bool true)], args := [d1, d2, d3, d4] }
  | _ => none }
def agingOrdersRow : OpenClaim := { program := "ytabajcofddhelaa", sum := "1f5130b458d53a198d6bb6a2cb894e0672aa22077008f89f0076228eea765361", func := "wakeman/wakemanlaw20.AgingOrders", spec := "agingOrders", unfollowed := true, recurses := true, apart := false }
def AgingOrdersSaid : Prop := agingOrdersRow.holds Try.pinned (OpenSpec.ofChange agingOrdersSpec)

/-- ITS FALSE NEIGHBOUR: 'it returns false'. Refute it at one input. -/
def agingOrdersWrong : ChangeSpec := { name := "agingOrders", fn := fun _ => fun
  | [d1, d2, d3, d4] => { results := [.lit (.bool false)], args := [d1, d2, d3, d4] }
  | _ => none }
def AgingOrdersWrongFalsely : Prop := agingOrdersRow.holds Try.pinned (OpenSpec.ofChange agingOrdersWrong)

/-- 'wakemanlaw20.AgingLevels': WHATEVER THE INPUT: true; the input reads as it did. -/
def agingLevelsSpec : ChangeSpec := { name := "agingLevels", fn := fun _ => fun
  | [d1, d2, d3, d4] => { results := [.lit (.bool true)], args := [d1, d2, d3, d4] }
  | _ => none }
def agingLevelsRow : OpenClaim := { program := "ytabajcofddhelaa", sum := "1f5130b458d53a198d6bb6a2cb894e0672aa22077008f89f0076228eea765361", func := "wakeman/wakemanlaw20.AgingLevels", spec := "agingLevels", unfollowed := true, recurses := true, apart := false }
def AgingLevelsSaid : Prop := agingLevelsRow.holds Try.pinned (OpenSpec.ofChange agingLevelsSpec)

/-- ITS FALSE NEIGHBOUR: 'it returns false'. Refute it at one input. -/
def agingLevelsWrong : ChangeSpec := { name := "agingLevels", fn := fun _ => fun
  | [d1, d2, d3, d4] => { results := [.lit (.bool false)], args := [d1, d2, d3, d4] }
  | _ => none }
def AgingLevelsWrongFalsely : Prop := agingLevelsRow.holds Try.pinned (OpenSpec.ofChange agingLevelsWrong)

/-- 'wakemanlaw20.AgingOvertakes': WHATEVER THE INPUT: true; the input reads as it did. -/
def agingOvertakesSpec : ChangeSpec := { name := "agingOvertakes", fn := fun _ => fun
  | [d1, d2, d3, d4, d5] => { results := [.lit (.bool true)], args := [d1, d2, d3, d4, d5] }
  | _ => none }
def agingOvertakesRow : OpenClaim := { program := "ytabajcofddhelaa", sum := "1f5130b458d53a198d6bb6a2cb894e0672aa22077008f89f0076228eea765361", func := "wakeman/wakemanlaw20.AgingOvertakes", spec := "agingOvertakes", unfollowed := true, recurses := true, apart := false }
def AgingOvertakesSaid : Prop := agingOvertakesRow.holds Try.pinned (OpenSpec.ofChange agingOvertakesSpec)

/-- ITS FALSE NEIGHBOUR: 'it returns false'. Refute it at one input. -/
def agingOvertakesWrong : ChangeSpec := { name := "agingOvertakes", fn := fun _ => fun
  | [d1, d2, d3, d4, d5] => { results := [.lit (.bool false)], args := [d1, d2, d3, d4, d5] }
  | _ => none }
def AgingOvertakesWrongFalsely : Prop := agingOvertakesRow.holds Try.pinned (OpenSpec.ofChange agingOvertakesWrong)

/-- 'wakemanlaw20.AgingSorts': WHATEVER THE INPUT: true; the input reads as it did. -/
def agingSortsSpec : ChangeSpec := { name := "agingSorts", fn := fun _ => fun
  | [d1, d2] => { results := [.lit (.bool true)], args := [d1, d2] }
  | _ => none }
def agingSortsRow : OpenClaim := { program := "ytabajcofddhelaa", sum := "1f5130b458d53a198d6bb6a2cb894e0672aa22077008f89f0076228eea765361", func := "wakeman/wakemanlaw20.AgingSorts", spec := "agingSorts", unfollowed := true, recurses := true, apart := false }
def AgingSortsSaid : Prop := agingSortsRow.holds Try.pinned (OpenSpec.ofChange agingSortsSpec)

/-- ITS FALSE NEIGHBOUR: 'it returns false'. Refute it at one input. -/
def agingSortsWrong : ChangeSpec := { name := "agingSorts", fn := fun _ => fun
  | [d1, d2] => { results := [.lit (.bool false)], args := [d1, d2] }
  | _ => none }
def AgingSortsWrongFalsely : Prop := agingSortsRow.holds Try.pinned (OpenSpec.ofChange agingSortsWrong)

/-- 'wakemanlaw20.AgingEnds': WHATEVER THE INPUT: true; the input reads as it did. -/
def agingEndsSpec : ChangeSpec := { name := "agingEnds", fn := fun _ => fun
  | [d1, d2, d3, d4] => { results := [.lit (.bool true)], args := [d1, d2, d3, d4] }
  | _ => none }
def agingEndsRow : OpenClaim := { program := "ytabajcofddhelaa", sum := "1f5130b458d53a198d6bb6a2cb894e0672aa22077008f89f0076228eea765361", func := "wakeman/wakemanlaw20.AgingEnds", spec := "agingEnds", unfollowed := true, recurses := true, apart := false }
def AgingEndsSaid : Prop := agingEndsRow.holds Try.pinned (OpenSpec.ofChange agingEndsSpec)

/-- ITS FALSE NEIGHBOUR: 'it returns false'. Refute it at one input. -/
def agingEndsWrong : ChangeSpec := { name := "agingEnds", fn := fun _ => fun
  | [d1, d2, d3, d4] => { results := [.lit (.bool false)], args := [d1, d2, d3, d4] }
  | _ => none }
def AgingEndsWrongFalsely : Prop := agingEndsRow.holds Try.pinned (OpenSpec.ofChange agingEndsWrong)

/-- 'wakemanlaw20.AgingLists': WHATEVER THE INPUT: true; the input reads as it did. -/
def agingListsSpec : ChangeSpec := { name := "agingLists", fn := fun _ => fun
  | [d1, d2, d3] => { results := [.lit (.bool true)], args := [d1, d2, d3] }
  | _ => none }
def agingListsRow : OpenClaim := { program := "ytabajcofddhelaa", sum := "1f5130b458d53a198d6bb6a2cb894e0672aa22077008f89f0076228eea765361", func := "wakeman/wakemanlaw20.AgingLists", spec := "agingLists", unfollowed := true, recurses := true, apart := false }
def AgingListsSaid : Prop := agingListsRow.holds Try.pinned (OpenSpec.ofChange agingListsSpec)

/-- ITS FALSE NEIGHBOUR: 'it returns false'. Refute it at one input. -/
def agingListsWrong : ChangeSpec := { name := "agingLists", fn := fun _ => fun
  | [d1, d2, d3] => { results := [.lit (.bool false)], args := [d1, d2, d3] }
  | _ => none }
def AgingListsWrongFalsely : Prop := agingListsRow.holds Try.pinned (OpenSpec.ofChange agingListsWrong)

/-- 'wakemanlaw20.AgingKnown': WHATEVER THE INPUT: true; the input reads as it did. -/
def agingKnownSpec : ChangeSpec := { name := "agingKnown", fn := fun _ => fun
  | [] => { results := [.lit (.bool true)], args := [] }
  | _ => none }
def agingKnownRow : OpenClaim := { program := "ytabajcofddhelaa", sum := "1f5130b458d53a198d6bb6a2cb894e0672aa22077008f89f0076228eea765361", func := "wakeman/wakemanlaw20.AgingKnown", spec := "agingKnown", unfollowed := true, recurses := true, apart := false }
def AgingKnownSaid : Prop := agingKnownRow.holds Try.pinned (OpenSpec.ofChange agingKnownSpec)

/-- ITS FALSE NEIGHBOUR: 'it returns false'. Refute it at one input. -/
def agingKnownWrong : ChangeSpec := { name := "agingKnown", fn := fun _ => fun
  | [] => { results := [.lit (.bool false)], args := [] }
  | _ => none }
def AgingKnownWrongFalsely : Prop := agingKnownRow.holds Try.pinned (OpenSpec.ofChange agingKnownWrong)

/- THE SECOND FORM. 'bulk': how many values and letters a reading holds, each counted each time it is reached (what is shared counts as often as it is met; a slice's spare places count too). A statement '..UptoSaid' is the law's where the arguments, and the package variables that the reading takes, are together of bulk at most 1048576: NARROWER than '..Said'. Prove '..Said' where nothing that the law and all that it calls make is longer than what came in: it says more and counts as full. Else prove '..UptoSaid'. A law counts once. -/
mutual
def uptoBulk {H : Type} : DataW H → Nat
  | .lit (.string bytes) => bytes.length + 1
  | .lit _ => 1
  | .nil => 1
  | .ptr d => uptoBulk d + 1
  | .slice elems spare => uptoBulkAll elems + uptoBulkAll spare + 1
  | .agg parts => uptoBulkAll parts + 1
  | .iface _ d => uptoBulk d + 1
  | .map entries => uptoBulkEntries entries + 1
  | .held _ => 1
def uptoBulkAll {H : Type} : List (DataW H) → Nat
  | [] => 0
  | d :: r => uptoBulk d + uptoBulkAll r
def uptoBulkEntries {H : Type} : List (Lit × DataW H) → Nat
  | [] => 0
  | x :: r => uptoBulkEntry x + uptoBulkEntries r
def uptoBulkEntry {H : Type} : Lit × DataW H → Nat
  | (.string bytes, d) => bytes.length + uptoBulk d + 1
  | (_, d) => uptoBulk d + 1
 end
def uptoSmall : (H : Type) → List (DataW H) → Bool := fun _ ds => decide (uptoBulkAll ds ≤ 1048576)
def OpenSpec.upto (s : _root_.Go.ChangeSpec) : _root_.Go.OpenSpec := { _root_.Go.OpenSpec.ofChange s with cond := some uptoSmall }

/-- 'wakemanlaw20.AgingKeys', WHERE WHAT IT READS IS OF BULK AT MOST 1048576: true; the input reads as it did. -/
def agingKeysUptoRow : OpenClaim := { program := "ytabajcofddhelaa", sum := "1f5130b458d53a198d6bb6a2cb894e0672aa22077008f89f0076228eea765361", func := "wakeman/wakemanlaw20.AgingKeys", spec := "agingKeys", unfollowed := true, recurses := true, apart := false, narrowed := true }
def AgingKeysUptoSaid : Prop := agingKeysUptoRow.holds Try.pinned (OpenSpec.upto agingKeysSpec)

/-- 'wakemanlaw20.AgingPairs', WHERE WHAT IT READS IS OF BULK AT MOST 1048576: true; the input reads as it did. -/
def agingPairsUptoRow : OpenClaim := { program := "ytabajcofddhelaa", sum := "1f5130b458d53a198d6bb6a2cb894e0672aa22077008f89f0076228eea765361", func := "wakeman/wakemanlaw20.AgingPairs", spec := "agingPairs", unfollowed := true, recurses := true, apart := false, narrowed := true }
def AgingPairsUptoSaid : Prop := agingPairsUptoRow.holds Try.pinned (OpenSpec.upto agingPairsSpec)

/-- 'wakemanlaw20.AgingOrders', WHERE WHAT IT READS IS OF BULK AT MOST 1048576: true; the input reads as it did. -/
def agingOrdersUptoRow : OpenClaim := { program := "ytabajcofddhelaa", sum := "1f5130b458d53a198d6bb6a2cb894e0672aa22077008f89f0076228eea765361", func := "wakeman/wakemanlaw20.AgingOrders", spec := "agingOrders", unfollowed := true, recurses := true, apart := false, narrowed := true }
def AgingOrdersUptoSaid : Prop := agingOrdersUptoRow.holds Try.pinned (OpenSpec.upto agingOrdersSpec)

/-- 'wakemanlaw20.AgingLevels', WHERE WHAT IT READS IS OF BULK AT MOST 1048576: true; the input reads as it did. -/
def agingLevelsUptoRow : OpenClaim := { program := "ytabajcofddhelaa", sum := "1f5130b458d53a198d6bb6a2cb894e0672aa22077008f89f0076228eea765361", func := "wakeman/wakemanlaw20.AgingLevels", spec := "agingLevels", unfollowed := true, recurses := true, apart := false, narrowed := true }
def AgingLevelsUptoSaid : Prop := agingLevelsUptoRow.holds Try.pinned (OpenSpec.upto agingLevelsSpec)

/-- 'wakemanlaw20.AgingOvertakes', WHERE WHAT IT READS IS OF BULK AT MOST 1048576: true; the input reads as it did. -/
def agingOvertakesUptoRow : OpenClaim := { program := "ytabajcofddhelaa", sum := "1f5130b458d53a198d6bb6a2cb894e0672aa22077008f89f0076228eea765361", func := "wakeman/wakemanlaw20.AgingOvertakes", spec := "agingOvertakes", unfollowed := true, recurses := true, apart := false, narrowed := true }
def AgingOvertakesUptoSaid : Prop := agingOvertakesUptoRow.holds Try.pinned (OpenSpec.upto agingOvertakesSpec)

/-- 'wakemanlaw20.AgingSorts', WHERE WHAT IT READS IS OF BULK AT MOST 1048576: true; the input reads as it did. -/
def agingSortsUptoRow : OpenClaim := { program := "ytabajcofddhelaa", sum := "1f5130b458d53a198d6bb6a2cb894e0672aa22077008f89f0076228eea765361", func := "wakeman/wakemanlaw20.AgingSorts", spec := "agingSorts", unfollowed := true, recurses := true, apart := false, narrowed := true }
def AgingSortsUptoSaid : Prop := agingSortsUptoRow.holds Try.pinned (OpenSpec.upto agingSortsSpec)

/-- 'wakemanlaw20.AgingEnds', WHERE WHAT IT READS IS OF BULK AT MOST 1048576: true; the input reads as it did. -/
def agingEndsUptoRow : OpenClaim := { program := "ytabajcofddhelaa", sum := "1f5130b458d53a198d6bb6a2cb894e0672aa22077008f89f0076228eea765361", func := "wakeman/wakemanlaw20.AgingEnds", spec := "agingEnds", unfollowed := true, recurses := true, apart := false, narrowed := true }
def AgingEndsUptoSaid : Prop := agingEndsUptoRow.holds Try.pinned (OpenSpec.upto agingEndsSpec)

/-- 'wakemanlaw20.AgingLists', WHERE WHAT IT READS IS OF BULK AT MOST 1048576: true; the input reads as it did. -/
def agingListsUptoRow : OpenClaim := { program := "ytabajcofddhelaa", sum := "1f5130b458d53a198d6bb6a2cb894e0672aa22077008f89f0076228eea765361", func := "wakeman/wakemanlaw20.AgingLists", spec := "agingLists", unfollowed := true, recurses := true, apart := false, narrowed := true }
def AgingListsUptoSaid : Prop := agingListsUptoRow.holds Try.pinned (OpenSpec.upto agingListsSpec)

/-- 'wakemanlaw20.AgingKnown', WHERE WHAT IT READS IS OF BULK AT MOST 1048576: true; the input reads as it did. -/
def agingKnownUptoRow : OpenClaim := { program := "ytabajcofddhelaa", sum := "1f5130b458d53a198d6bb6a2cb894e0672aa22077008f89f0076228eea765361", func := "wakeman/wakemanlaw20.AgingKnown", spec := "agingKnown", unfollowed := true, recurses := true, apart := false, narrowed := true }
def AgingKnownUptoSaid : Prop := agingKnownUptoRow.holds Try.pinned (OpenSpec.upto agingKnownSpec)

end Rows
end Go.Proofs.Ytabajcofddhelaa
