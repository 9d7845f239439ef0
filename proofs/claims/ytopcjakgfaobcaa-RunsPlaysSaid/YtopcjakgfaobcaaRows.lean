/-
  No cell of these rows narrows 'for every input' (looked for: loops, veiled, ifaces, maps, wideKeys, modest, calm, conditions, laid).
  DERIVED. THE GIVEN ROWS OF THIS SEAT. 8 by the template 'for every input the law returns true; each argument reads behind the call as it read before'; 0 by the template 'total and deterministic' (their statements: YtopcjakgfaobcaaTotals.lean).
  GIVEN WITH THE SEED: the statements are not yours to turn. If you find one false, say at which input.
  Laid BY PROGRAM, IN A SANDBOX (cutbox-rows.mjs): the forced cells as the released guide's own fill.sh prints them over the translation 0a89bd45f92fd3e8… (all of the seat's roots in one cut). By AI agents, Wed Nov 11 2026. No macro, syntax, notation, axiom, sorry.
-/
import Derived.Test.YtopcjakgfaobcaaChecked
import GoSem.Claim
import GoSem.ClaimJoined
import GoSem.ClaimMapViews
import Derived.JoinedTies
import Derived.KernelRfl
namespace Go.Proofs.Ytopcjakgfaobcaa
/- THE CELL 'sum', in the pinned program and in every row, IS THE sha256 OF THE DUMP (.gsa) THAT YtopcjakgfaobcaaProg.lean LOADS. Nothing in Lean hashes anything: it is a label: what it is worth is what the hold of that sum in a sandbox is worth. -/
noncomputable def Try.pinned : Pinned := { name := "ytopcjakgfaobcaa", sum := "0a89bd45f92fd3e8562fc8e5adfe970153e73775947b3c7104d0a977d0dfb07c", checked := Try.checked }
namespace Rows
def none {H : Type} : Left H := { results := [], args := [] }

/-- 'wakemanlaw34.RunsRoom': WHATEVER THE INPUT: true; the input reads as it did. -/
def runsRoomSpec : ChangeSpec := { name := "runsRoom", fn := fun _ => fun
  | [d] => { results := [.lit (.bool true)], args := [d] }
  | _ => none }
def runsRoomRow : OpenClaim := { program := "ytopcjakgfaobcaa", sum := "0a89bd45f92fd3e8562fc8e5adfe970153e73775947b3c7104d0a977d0dfb07c", func := "wakeman/wakemanlaw34.RunsRoom", spec := "runsRoom", unfollowed := true, recurses := true, apart := false }
def RunsRoomSaid : Prop := runsRoomRow.holds Try.pinned (OpenSpec.ofChange runsRoomSpec)

/-- ITS FALSE NEIGHBOUR: 'it returns false'. Refute it at one input. -/
def runsRoomWrong : ChangeSpec := { name := "runsRoom", fn := fun _ => fun
  | [d] => { results := [.lit (.bool false)], args := [d] }
  | _ => none }
def RunsRoomWrongFalsely : Prop := runsRoomRow.holds Try.pinned (OpenSpec.ofChange runsRoomWrong)

/-- 'wakemanlaw34.RunsCounts': WHATEVER THE INPUT: true; the input reads as it did. -/
def runsCountsSpec : ChangeSpec := { name := "runsCounts", fn := fun _ => fun
  | [d1, d2] => { results := [.lit (.bool true)], args := [d1, d2] }
  | _ => none }
def runsCountsRow : OpenClaim := { program := "ytopcjakgfaobcaa", sum := "0a89bd45f92fd3e8562fc8e5adfe970153e73775947b3c7104d0a977d0dfb07c", func := "wakeman/wakemanlaw34.RunsCounts", spec := "runsCounts", unfollowed := true, recurses := true, apart := false }
def RunsCountsSaid : Prop := runsCountsRow.holds Try.pinned (OpenSpec.ofChange runsCountsSpec)

/-- ITS FALSE NEIGHBOUR: 'it returns false'. Refute it at one input. -/
def runsCountsWrong : ChangeSpec := { name := "runsCounts", fn := fun _ => fun
  | [d1, d2] => { results := [.lit (.bool false)], args := [d1, d2] }
  | _ => none }
def RunsCountsWrongFalsely : Prop := runsCountsRow.holds Try.pinned (OpenSpec.ofChange runsCountsWrong)

/-- 'wakemanlaw34.RunsKeeps': WHATEVER THE INPUT: true; the input reads as it did. -/
def runsKeepsSpec : ChangeSpec := { name := "runsKeeps", fn := fun _ => fun
  | [d1, d2] => { results := [.lit (.bool true)], args := [d1, d2] }
  | _ => none }
def runsKeepsRow : OpenClaim := { program := "ytopcjakgfaobcaa", sum := "0a89bd45f92fd3e8562fc8e5adfe970153e73775947b3c7104d0a977d0dfb07c", func := "wakeman/wakemanlaw34.RunsKeeps", spec := "runsKeeps", unfollowed := true, recurses := true, apart := false }
def RunsKeepsSaid : Prop := runsKeepsRow.holds Try.pinned (OpenSpec.ofChange runsKeepsSpec)

/-- ITS FALSE NEIGHBOUR: 'it returns false'. Refute it at one input. -/
def runsKeepsWrong : ChangeSpec := { name := "runsKeeps", fn := fun _ => fun
  | [d1, d2] => { results := [.lit (.bool false)], args := [d1, d2] }
  | _ => none }
def RunsKeepsWrongFalsely : Prop := runsKeepsRow.holds Try.pinned (OpenSpec.ofChange runsKeepsWrong)

/-- 'wakemanlaw34.RunsOldest': WHATEVER THE INPUT: true; the input reads as it did. -/
def runsOldestSpec : ChangeSpec := { name := "runsOldest", fn := fun _ => fun
  | [d1, d2] => { results := [.lit (.bool true)], args := [d1, d2] }
  | _ => none }
def runsOldestRow : OpenClaim := { program := "ytopcjakgfaobcaa", sum := "0a89bd45f92fd3e8562fc8e5adfe970153e73775947b3c7104d0a977d0dfb07c", func := "wakeman/wakemanlaw34.RunsOldest", spec := "runsOldest", unfollowed := true, recurses := true, apart := false }
def RunsOldestSaid : Prop := runsOldestRow.holds Try.pinned (OpenSpec.ofChange runsOldestSpec)

/-- ITS FALSE NEIGHBOUR: 'it returns false'. Refute it at one input. -/
def runsOldestWrong : ChangeSpec := { name := "runsOldest", fn := fun _ => fun
  | [d1, d2] => { results := [.lit (.bool false)], args := [d1, d2] }
  | _ => none }
def RunsOldestWrongFalsely : Prop := runsOldestRow.holds Try.pinned (OpenSpec.ofChange runsOldestWrong)

/-- 'wakemanlaw34.RunsRefuses': WHATEVER THE INPUT: true; the input reads as it did. -/
def runsRefusesSpec : ChangeSpec := { name := "runsRefuses", fn := fun _ => fun
  | [d1, d2] => { results := [.lit (.bool true)], args := [d1, d2] }
  | _ => none }
def runsRefusesRow : OpenClaim := { program := "ytopcjakgfaobcaa", sum := "0a89bd45f92fd3e8562fc8e5adfe970153e73775947b3c7104d0a977d0dfb07c", func := "wakeman/wakemanlaw34.RunsRefuses", spec := "runsRefuses", unfollowed := true, recurses := true, apart := false }
def RunsRefusesSaid : Prop := runsRefusesRow.holds Try.pinned (OpenSpec.ofChange runsRefusesSpec)

/-- ITS FALSE NEIGHBOUR: 'it returns false'. Refute it at one input. -/
def runsRefusesWrong : ChangeSpec := { name := "runsRefuses", fn := fun _ => fun
  | [d1, d2] => { results := [.lit (.bool false)], args := [d1, d2] }
  | _ => none }
def RunsRefusesWrongFalsely : Prop := runsRefusesRow.holds Try.pinned (OpenSpec.ofChange runsRefusesWrong)

/-- 'wakemanlaw34.RunsCopies': WHATEVER THE INPUT: true; the input reads as it did. -/
def runsCopiesSpec : ChangeSpec := { name := "runsCopies", fn := fun _ => fun
  | [d1, d2] => { results := [.lit (.bool true)], args := [d1, d2] }
  | _ => none }
def runsCopiesRow : OpenClaim := { program := "ytopcjakgfaobcaa", sum := "0a89bd45f92fd3e8562fc8e5adfe970153e73775947b3c7104d0a977d0dfb07c", func := "wakeman/wakemanlaw34.RunsCopies", spec := "runsCopies", unfollowed := true, recurses := true, apart := false }
def RunsCopiesSaid : Prop := runsCopiesRow.holds Try.pinned (OpenSpec.ofChange runsCopiesSpec)

/-- ITS FALSE NEIGHBOUR: 'it returns false'. Refute it at one input. -/
def runsCopiesWrong : ChangeSpec := { name := "runsCopies", fn := fun _ => fun
  | [d1, d2] => { results := [.lit (.bool false)], args := [d1, d2] }
  | _ => none }
def RunsCopiesWrongFalsely : Prop := runsCopiesRow.holds Try.pinned (OpenSpec.ofChange runsCopiesWrong)

/-- 'wakemanlaw34.RunsPlays': WHATEVER THE INPUT: true; the input reads as it did. -/
def runsPlaysSpec : ChangeSpec := { name := "runsPlays", fn := fun _ => fun
  | [d1, d2, d3, d4] => { results := [.lit (.bool true)], args := [d1, d2, d3, d4] }
  | _ => none }
def runsPlaysRow : OpenClaim := { program := "ytopcjakgfaobcaa", sum := "0a89bd45f92fd3e8562fc8e5adfe970153e73775947b3c7104d0a977d0dfb07c", func := "wakeman/wakemanlaw34.RunsPlays", spec := "runsPlays", unfollowed := true, recurses := true, apart := false }
def RunsPlaysSaid : Prop := runsPlaysRow.holds Try.pinned (OpenSpec.ofChange runsPlaysSpec)

/-- ITS FALSE NEIGHBOUR: 'it returns false'. Refute it at one input. -/
def runsPlaysWrong : ChangeSpec := { name := "runsPlays", fn := fun _ => fun
  | [d1, d2, d3, d4] => { results := [.lit (.bool false)], args := [d1, d2, d3, d4] }
  | _ => none }
def RunsPlaysWrongFalsely : Prop := runsPlaysRow.holds Try.pinned (OpenSpec.ofChange runsPlaysWrong)

/-- 'wakemanlaw34.RunsNil': WHATEVER THE INPUT: true; the input reads as it did. -/
def runsNilSpec : ChangeSpec := { name := "runsNil", fn := fun _ => fun
  | [d] => { results := [.lit (.bool true)], args := [d] }
  | _ => none }
def runsNilRow : OpenClaim := { program := "ytopcjakgfaobcaa", sum := "0a89bd45f92fd3e8562fc8e5adfe970153e73775947b3c7104d0a977d0dfb07c", func := "wakeman/wakemanlaw34.RunsNil", spec := "runsNil", unfollowed := true, recurses := true, apart := false }
def RunsNilSaid : Prop := runsNilRow.holds Try.pinned (OpenSpec.ofChange runsNilSpec)

/-- ITS FALSE NEIGHBOUR: 'it returns false'. Refute it at one input. -/
def runsNilWrong : ChangeSpec := { name := "runsNil", fn := fun _ => fun
  | [d] => { results := [.lit (.bool false)], args := [d] }
  | _ => none }
def RunsNilWrongFalsely : Prop := runsNilRow.holds Try.pinned (OpenSpec.ofChange runsNilWrong)

/- THE SECOND FORM. 'bulk': how many values and letters a reading holds, each counted each time it is reached (what is shared counts as often as it is met; a slice's spare places count too). A statement '..UptoSaid' is the law's where the arguments, and the package variables that the reading takes, are together of bulk at most 1048576: NARROWER than '..Said'. Prove '..Said' where nothing that the law and all that it calls make is longer than what came in: it says more and counts as full. Else prove '..UptoSaid'. A law counts once. -/
mutual
def uptoBulk {H : Type} : DataW H → Nat
  | .lit (.string bytes) => bytes.length + 1
  | .lit _ => 1
  | .nil => 1
  | .ptr d => uptoBulk d + 1
  | .slice elems spare => uptoBulkAll elems + uptoBulkAll spare + 1
  | .agg parts => uptoBulkAll parts + 1
  | .iface _ d => uptoBulk d + 1
  | .map entries => uptoBulkEntries entries + 1
  | .held _ => 1
def uptoBulkAll {H : Type} : List (DataW H) → Nat
  | [] => 0
  | d :: r => uptoBulk d + uptoBulkAll r
def uptoBulkEntries {H : Type} : List (Lit × DataW H) → Nat
  | [] => 0
  | x :: r => uptoBulkEntry x + uptoBulkEntries r
def uptoBulkEntry {H : Type} : Lit × DataW H → Nat
  | (.string bytes, d) => bytes.length + uptoBulk d + 1
  | (_, d) => uptoBulk d + 1
 end
def uptoSmall : (H : Type) → List (DataW H) → Bool := fun _ ds => decide (uptoBulkAll ds ≤ 1048576)
def OpenSpec.upto (s : _root_.Go.ChangeSpec) : _root_.Go.OpenSpec := { _root_.Go.OpenSpec.ofChange s with cond := some uptoSmall }

/-- 'wakemanlaw34.RunsRoom', WHERE WHAT IT READS IS OF BULK AT MOST 1048576: true; the input reads as it did. -/
def runsRoomUptoRow : OpenClaim := { program := "ytopcjakgfaobcaa", sum := "0a89bd45f92fd3e8562fc8e5adfe970153e73775947b3c7104d0a977d0dfb07c", func := "wakeman/wakemanlaw34.RunsRoom", spec := "runsRoom", unfollowed := true, recurses := true, apart := false, narrowed := true }
def RunsRoomUptoSaid : Prop := runsRoomUptoRow.holds Try.pinned (OpenSpec.upto runsRoomSpec)

/-- 'wakemanlaw34.RunsCounts', WHERE WHAT IT READS IS OF BULK AT MOST 1048576: true; the input reads as it did. -/
def runsCountsUptoRow : OpenClaim := { program := "ytopcjakgfaobcaa", sum := "0a89bd45f92fd3e8562fc8e5adfe970153e73775947b3c7104d0a977d0dfb07c", func := "wakeman/wakemanlaw34.RunsCounts", spec := "runsCounts", unfollowed := true, recurses := true, apart := false, narrowed := true }
def RunsCountsUptoSaid : Prop := runsCountsUptoRow.holds Try.pinned (OpenSpec.upto runsCountsSpec)

/-- 'wakemanlaw34.RunsKeeps', WHERE WHAT IT READS IS OF BULK AT MOST 1048576: true; the input reads as it did. -/
def runsKeepsUptoRow : OpenClaim := { program := "ytopcjakgfaobcaa", sum := "0a89bd45f92fd3e8562fc8e5adfe970153e73775947b3c7104d0a977d0dfb07c", func := "wakeman/wakemanlaw34.RunsKeeps", spec := "runsKeeps", unfollowed := true, recurses := true, apart := false, narrowed := true }
def RunsKeepsUptoSaid : Prop := runsKeepsUptoRow.holds Try.pinned (OpenSpec.upto runsKeepsSpec)

/-- 'wakemanlaw34.RunsOldest', WHERE WHAT IT READS IS OF BULK AT MOST 1048576: true; the input reads as it did. -/
def runsOldestUptoRow : OpenClaim := { program := "ytopcjakgfaobcaa", sum := "0a89bd45f92fd3e8562fc8e5adfe970153e73775947b3c7104d0a977d0dfb07c", func := "wakeman/wakemanlaw34.RunsOldest", spec := "runsOldest", unfollowed := true, recurses := true, apart := false, narrowed := true }
def RunsOldestUptoSaid : Prop := runsOldestUptoRow.holds Try.pinned (OpenSpec.upto runsOldestSpec)

/-- 'wakemanlaw34.RunsRefuses', WHERE WHAT IT READS IS OF BULK AT MOST 1048576: true; the input reads as it did. -/
def runsRefusesUptoRow : OpenClaim := { program := "ytopcjakgfaobcaa", sum := "0a89bd45f92fd3e8562fc8e5adfe970153e73775947b3c7104d0a977d0dfb07c", func := "wakeman/wakemanlaw34.RunsRefuses", spec := "runsRefuses", unfollowed := true, recurses := true, apart := false, narrowed := true }
def RunsRefusesUptoSaid : Prop := runsRefusesUptoRow.holds Try.pinned (OpenSpec.upto runsRefusesSpec)

/-- 'wakemanlaw34.RunsCopies', WHERE WHAT IT READS IS OF BULK AT MOST 1048576: true; the input reads as it did. -/
def runsCopiesUptoRow : OpenClaim := { program := "ytopcjakgfaobcaa", sum := "0a89bd45f92fd3e8562fc8e5adfe970153e73775947b3c7104d0a977d0dfb07c", func := "wakeman/wakemanlaw34.RunsCopies", spec := "runsCopies", unfollowed := true, recurses := true, apart := false, narrowed := true }
def RunsCopiesUptoSaid : Prop := runsCopiesUptoRow.holds Try.pinned (OpenSpec.upto runsCopiesSpec)

/-- 'wakemanlaw34.RunsPlays', WHERE WHAT IT READS IS OF BULK AT MOST 1048576: true; the input reads as it did. -/
def runsPlaysUptoRow : OpenClaim := { program := "ytopcjakgfaobcaa", sum := "0a89bd45f92fd3e8562fc8e5adfe970153e73775947b3c7104d0a977d0dfb07c", func := "wakeman/wakemanlaw34.RunsPlays", spec := "runsPlays", unfollowed := true, recurses := true, apart := false, narrowed := true }
def RunsPlaysUptoSaid : Prop := runsPlaysUptoRow.holds Try.pinned (OpenSpec.upto runsPlaysSpec)

/-- 'wakemanlaw34.RunsNil', WHERE WHAT IT READS IS OF BULK AT MOST 1048576: true; the input reads as it did. -/
def runsNilUptoRow : OpenClaim := { program := "ytopcjakgfaobcaa", sum := "0a89bd45f92fd3e8562fc8e5adfe970153e73775947b3c7104d0a977d0dfb07c", func := "wakeman/wakemanlaw34.RunsNil", spec := "runsNil", unfollowed := true, recurses := true, apart := false, narrowed := true }
def RunsNilUptoSaid : Prop := runsNilUptoRow.holds Try.pinned (OpenSpec.upto runsNilSpec)

end Rows
end Go.Proofs.Ytopcjakgfaobcaa
