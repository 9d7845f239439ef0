/-
  No cell of these rows narrows 'for every input' (looked for: loops, veiled, ifaces, maps, wideKeys, modest, calm, conditions, laid).
  DERIVED. THE GIVEN ROWS OF THIS SEAT. 9 by the template 'for every input the law returns true; each argument reads behind the call as it read before'; 0 by the template 'total and deterministic' (their statements: YtgkpmckbdagkcaaTotals.lean).
  GIVEN WITH THE SEED: the statements are not yours to turn. If you find one false, say at which input.
  Laid BY PROGRAM, IN A SANDBOX (cutbox-rows.mjs): the forced cells as the released guide's own fill.sh prints them over the translation a15ab72007621824… (all of the seat's roots in one cut). By AI agents, Wed Nov 11 2026. No macro, syntax, notation, axiom, sorry.
-/
import Derived.Test.YtgkpmckbdagkcaaChecked
import GoSem.Claim
import GoSem.ClaimJoined
import GoSem.ClaimMapViews
import Derived.JoinedTies
import Derived.KernelRfl
namespace Go.Proofs.Ytgkpmckbdagkcaa
/- THE CELL 'sum', in the pinned program and in every row, IS THE sha256 OF THE DUMP (.gsa) THAT YtgkpmckbdagkcaaProg.lean LOADS. Nothing in Lean hashes anything: it is a label: what it is worth is what the hold of that sum in a sandbox is worth. -/
noncomputable def Try.pinned : Pinned := { name := "ytgkpmckbdagkcaa", sum := "a15ab72007621824366a97ffb7e007828a446d2d9d06bec9d2f4d4dfa086b32d", checked := Try.checked }
namespace Rows
def none {H : Type} : Left H := { results := [], args := [] }

/-- 'wakemanlaw22.LateSorts': WHATEVER THE INPUT: true; the input reads as it did. -/
def lateSortsSpec : ChangeSpec := { name := "lateSorts", fn := fun _ => fun
  | [d] => { results := [.lit (.bool true)], args := [d] }
  | _ => none }
def lateSortsRow : OpenClaim := { program := "ytgkpmckbdagkcaa", sum := "a15ab72007621824366a97ffb7e007828a446d2d9d06bec9d2f4d4dfa086b32d", func := "wakeman/wakemanlaw22.LateSorts", spec := "lateSorts", inPlace := ["slices.overlaps[int]"], unfollowed := true, recurses := true, apart := false }
def LateSortsSaid : Prop := lateSortsRow.holds Try.pinned (OpenSpec.ofChange lateSortsSpec)

/-- ITS FALSE NEIGHBOUR: 'it returns false'. Refute it at one input. -/
def lateSortsWrong : ChangeSpec := { name := "lateSorts", fn := fun _ => fun
  | [d] => { results := [.lit (.bool false)], args := [d] }
  | _ => none }
def LateSortsWrongFalsely : Prop := lateSortsRow.holds Try.pinned (OpenSpec.ofChange lateSortsWrong)

/-- 'wakemanlaw22.LatePlays': WHATEVER THE INPUT: true; the input reads as it did. -/
def latePlaysSpec : ChangeSpec := { name := "latePlays", fn := fun _ => fun
  | [d1, d2] => { results := [.lit (.bool true)], args := [d1, d2] }
  | _ => none }
def latePlaysRow : OpenClaim := { program := "ytgkpmckbdagkcaa", sum := "a15ab72007621824366a97ffb7e007828a446d2d9d06bec9d2f4d4dfa086b32d", func := "wakeman/wakemanlaw22.LatePlays", spec := "latePlays", inPlace := ["slices.overlaps[int]", "maps.clone"], unfollowed := true, recurses := true, apart := false }
def LatePlaysSaid : Prop := latePlaysRow.holds Try.pinned (OpenSpec.ofChange latePlaysSpec)

/-- ITS FALSE NEIGHBOUR: 'it returns false'. Refute it at one input. -/
def latePlaysWrong : ChangeSpec := { name := "latePlays", fn := fun _ => fun
  | [d1, d2] => { results := [.lit (.bool false)], args := [d1, d2] }
  | _ => none }
def LatePlaysWrongFalsely : Prop := latePlaysRow.holds Try.pinned (OpenSpec.ofChange latePlaysWrong)

/-- 'wakemanlaw22.LateNil': WHATEVER THE INPUT: true; the input reads as it did. -/
def lateNilSpec : ChangeSpec := { name := "lateNil", fn := fun _ => fun
  | [d1, d2] => { results := [.lit (.bool true)], args := [d1, d2] }
  | _ => none }
def lateNilRow : OpenClaim := { program := "ytgkpmckbdagkcaa", sum := "a15ab72007621824366a97ffb7e007828a446d2d9d06bec9d2f4d4dfa086b32d", func := "wakeman/wakemanlaw22.LateNil", spec := "lateNil", inPlace := ["slices.overlaps[int]", "maps.clone"], unfollowed := true, recurses := true, apart := false }
def LateNilSaid : Prop := lateNilRow.holds Try.pinned (OpenSpec.ofChange lateNilSpec)

/-- ITS FALSE NEIGHBOUR: 'it returns false'. Refute it at one input. -/
def lateNilWrong : ChangeSpec := { name := "lateNil", fn := fun _ => fun
  | [d1, d2] => { results := [.lit (.bool false)], args := [d1, d2] }
  | _ => none }
def LateNilWrongFalsely : Prop := lateNilRow.holds Try.pinned (OpenSpec.ofChange lateNilWrong)

/-- 'wakemanlaw22.LatePast': WHATEVER THE INPUT: true; the input reads as it did. -/
def latePastSpec : ChangeSpec := { name := "latePast", fn := fun _ => fun
  | [d1, d2] => { results := [.lit (.bool true)], args := [d1, d2] }
  | _ => none }
def latePastRow : OpenClaim := { program := "ytgkpmckbdagkcaa", sum := "a15ab72007621824366a97ffb7e007828a446d2d9d06bec9d2f4d4dfa086b32d", func := "wakeman/wakemanlaw22.LatePast", spec := "latePast", inPlace := ["slices.overlaps[int]", "maps.clone"], unfollowed := true, recurses := true, apart := false }
def LatePastSaid : Prop := latePastRow.holds Try.pinned (OpenSpec.ofChange latePastSpec)

/-- ITS FALSE NEIGHBOUR: 'it returns false'. Refute it at one input. -/
def latePastWrong : ChangeSpec := { name := "latePast", fn := fun _ => fun
  | [d1, d2] => { results := [.lit (.bool false)], args := [d1, d2] }
  | _ => none }
def LatePastWrongFalsely : Prop := latePastRow.holds Try.pinned (OpenSpec.ofChange latePastWrong)

/-- 'wakemanlaw22.LateTwice': WHATEVER THE INPUT: true; the input reads as it did. -/
def lateTwiceSpec : ChangeSpec := { name := "lateTwice", fn := fun _ => fun
  | [d1, d2, d3] => { results := [.lit (.bool true)], args := [d1, d2, d3] }
  | _ => none }
def lateTwiceRow : OpenClaim := { program := "ytgkpmckbdagkcaa", sum := "a15ab72007621824366a97ffb7e007828a446d2d9d06bec9d2f4d4dfa086b32d", func := "wakeman/wakemanlaw22.LateTwice", spec := "lateTwice", inPlace := ["slices.overlaps[int]", "maps.clone"], unfollowed := true, recurses := true, apart := false }
def LateTwiceSaid : Prop := lateTwiceRow.holds Try.pinned (OpenSpec.ofChange lateTwiceSpec)

/-- ITS FALSE NEIGHBOUR: 'it returns false'. Refute it at one input. -/
def lateTwiceWrong : ChangeSpec := { name := "lateTwice", fn := fun _ => fun
  | [d1, d2, d3] => { results := [.lit (.bool false)], args := [d1, d2, d3] }
  | _ => none }
def LateTwiceWrongFalsely : Prop := lateTwiceRow.holds Try.pinned (OpenSpec.ofChange lateTwiceWrong)

/-- 'wakemanlaw22.LateNext': WHATEVER THE INPUT: true; the input reads as it did. -/
def lateNextSpec : ChangeSpec := { name := "lateNext", fn := fun _ => fun
  | [d] => { results := [.lit (.bool true)], args := [d] }
  | _ => none }
def lateNextRow : OpenClaim := { program := "ytgkpmckbdagkcaa", sum := "a15ab72007621824366a97ffb7e007828a446d2d9d06bec9d2f4d4dfa086b32d", func := "wakeman/wakemanlaw22.LateNext", spec := "lateNext", inPlace := ["slices.overlaps[int]", "maps.clone"], unfollowed := true, recurses := true, apart := false }
def LateNextSaid : Prop := lateNextRow.holds Try.pinned (OpenSpec.ofChange lateNextSpec)

/-- ITS FALSE NEIGHBOUR: 'it returns false'. Refute it at one input. -/
def lateNextWrong : ChangeSpec := { name := "lateNext", fn := fun _ => fun
  | [d] => { results := [.lit (.bool false)], args := [d] }
  | _ => none }
def LateNextWrongFalsely : Prop := lateNextRow.holds Try.pinned (OpenSpec.ofChange lateNextWrong)

/-- 'wakemanlaw22.LateRemoves': WHATEVER THE INPUT: true; the input reads as it did. -/
def lateRemovesSpec : ChangeSpec := { name := "lateRemoves", fn := fun _ => fun
  | [d1, d2, d3] => { results := [.lit (.bool true)], args := [d1, d2, d3] }
  | _ => none }
def lateRemovesRow : OpenClaim := { program := "ytgkpmckbdagkcaa", sum := "a15ab72007621824366a97ffb7e007828a446d2d9d06bec9d2f4d4dfa086b32d", func := "wakeman/wakemanlaw22.LateRemoves", spec := "lateRemoves", inPlace := ["slices.overlaps[int]", "maps.clone"], unfollowed := true, recurses := true, apart := false }
def LateRemovesSaid : Prop := lateRemovesRow.holds Try.pinned (OpenSpec.ofChange lateRemovesSpec)

/-- ITS FALSE NEIGHBOUR: 'it returns false'. Refute it at one input. -/
def lateRemovesWrong : ChangeSpec := { name := "lateRemoves", fn := fun _ => fun
  | [d1, d2, d3] => { results := [.lit (.bool false)], args := [d1, d2, d3] }
  | _ => none }
def LateRemovesWrongFalsely : Prop := lateRemovesRow.holds Try.pinned (OpenSpec.ofChange lateRemovesWrong)

/-- 'wakemanlaw22.LateKeeps': WHATEVER THE INPUT: true; the input reads as it did. -/
def lateKeepsSpec : ChangeSpec := { name := "lateKeeps", fn := fun _ => fun
  | [d1, d2, d3] => { results := [.lit (.bool true)], args := [d1, d2, d3] }
  | _ => none }
def lateKeepsRow : OpenClaim := { program := "ytgkpmckbdagkcaa", sum := "a15ab72007621824366a97ffb7e007828a446d2d9d06bec9d2f4d4dfa086b32d", func := "wakeman/wakemanlaw22.LateKeeps", spec := "lateKeeps", inPlace := ["slices.overlaps[int]", "maps.clone"], unfollowed := true, recurses := true, apart := false }
def LateKeepsSaid : Prop := lateKeepsRow.holds Try.pinned (OpenSpec.ofChange lateKeepsSpec)

/-- ITS FALSE NEIGHBOUR: 'it returns false'. Refute it at one input. -/
def lateKeepsWrong : ChangeSpec := { name := "lateKeeps", fn := fun _ => fun
  | [d1, d2, d3] => { results := [.lit (.bool false)], args := [d1, d2, d3] }
  | _ => none }
def LateKeepsWrongFalsely : Prop := lateKeepsRow.holds Try.pinned (OpenSpec.ofChange lateKeepsWrong)

/-- 'wakemanlaw22.LateCopies': WHATEVER THE INPUT: true; the input reads as it did. -/
def lateCopiesSpec : ChangeSpec := { name := "lateCopies", fn := fun _ => fun
  | [d1, d2] => { results := [.lit (.bool true)], args := [d1, d2] }
  | _ => none }
def lateCopiesRow : OpenClaim := { program := "ytgkpmckbdagkcaa", sum := "a15ab72007621824366a97ffb7e007828a446d2d9d06bec9d2f4d4dfa086b32d", func := "wakeman/wakemanlaw22.LateCopies", spec := "lateCopies", inPlace := ["slices.overlaps[int]", "maps.clone"], unfollowed := true, recurses := true, apart := false }
def LateCopiesSaid : Prop := lateCopiesRow.holds Try.pinned (OpenSpec.ofChange lateCopiesSpec)

/-- ITS FALSE NEIGHBOUR: 'it returns false'. Refute it at one input. -/
def lateCopiesWrong : ChangeSpec := { name := "lateCopies", fn := fun _ => fun
  | [d1, d2] => { results := [.lit (.bool false)], args := [d1, d2] }
  | _ => none }
def LateCopiesWrongFalsely : Prop := lateCopiesRow.holds Try.pinned (OpenSpec.ofChange lateCopiesWrong)

/- THE SECOND FORM. 'bulk': how many values and letters a reading holds, each counted each time it is reached (what is shared counts as often as it is met; a slice's spare places count too). A statement '..UptoSaid' is the law's where the arguments, and the package variables that the reading takes, are together of bulk at most 1048576: NARROWER than '..Said'. Prove '..Said' where nothing that the law and all that it calls make is longer than what came in: it says more and counts as full. Else prove '..UptoSaid'. A law counts once. -/
mutual
def uptoBulk {H : Type} : DataW H → Nat
  | .lit (.string bytes) => bytes.length + 1
  | .lit _ => 1
  | .nil => 1
  | .ptr d => uptoBulk d + 1
  | .slice elems spare => uptoBulkAll elems + uptoBulkAll spare + 1
  | .agg parts => uptoBulkAll parts + 1
  | .iface _ d => uptoBulk d + 1
  | .map entries => uptoBulkEntries entries + 1
  | .held _ => 1
def uptoBulkAll {H : Type} : List (DataW H) → Nat
  | [] => 0
  | d :: r => uptoBulk d + uptoBulkAll r
def uptoBulkEntries {H : Type} : List (Lit × DataW H) → Nat
  | [] => 0
  | x :: r => uptoBulkEntry x + uptoBulkEntries r
def uptoBulkEntry {H : Type} : Lit × DataW H → Nat
  | (.string bytes, d) => bytes.length + uptoBulk d + 1
  | (_, d) => uptoBulk d + 1
 end
def uptoSmall : (H : Type) → List (DataW H) → Bool := fun _ ds => decide (uptoBulkAll ds ≤ 1048576)
def OpenSpec.upto (s : _root_.Go.ChangeSpec) : _root_.Go.OpenSpec := { _root_.Go.OpenSpec.ofChange s with cond := some uptoSmall }

/-- 'wakemanlaw22.LateSorts', WHERE WHAT IT READS IS OF BULK AT MOST 1048576: true; the input reads as it did. -/
def lateSortsUptoRow : OpenClaim := { program := "ytgkpmckbdagkcaa", sum := "a15ab72007621824366a97ffb7e007828a446d2d9d06bec9d2f4d4dfa086b32d", func := "wakeman/wakemanlaw22.LateSorts", spec := "lateSorts", inPlace := ["slices.overlaps[int]"], unfollowed := true, recurses := true, apart := false, narrowed := true }
def LateSortsUptoSaid : Prop := lateSortsUptoRow.holds Try.pinned (OpenSpec.upto lateSortsSpec)

/-- 'wakemanlaw22.LatePlays', WHERE WHAT IT READS IS OF BULK AT MOST 1048576: true; the input reads as it did. -/
def latePlaysUptoRow : OpenClaim := { program := "ytgkpmckbdagkcaa", sum := "a15ab72007621824366a97ffb7e007828a446d2d9d06bec9d2f4d4dfa086b32d", func := "wakeman/wakemanlaw22.LatePlays", spec := "latePlays", inPlace := ["slices.overlaps[int]", "maps.clone"], unfollowed := true, recurses := true, apart := false, narrowed := true }
def LatePlaysUptoSaid : Prop := latePlaysUptoRow.holds Try.pinned (OpenSpec.upto latePlaysSpec)

/-- 'wakemanlaw22.LateNil', WHERE WHAT IT READS IS OF BULK AT MOST 1048576: true; the input reads as it did. -/
def lateNilUptoRow : OpenClaim := { program := "ytgkpmckbdagkcaa", sum := "a15ab72007621824366a97ffb7e007828a446d2d9d06bec9d2f4d4dfa086b32d", func := "wakeman/wakemanlaw22.LateNil", spec := "lateNil", inPlace := ["slices.overlaps[int]", "maps.clone"], unfollowed := true, recurses := true, apart := false, narrowed := true }
def LateNilUptoSaid : Prop := lateNilUptoRow.holds Try.pinned (OpenSpec.upto lateNilSpec)

/-- 'wakemanlaw22.LatePast', WHERE WHAT IT READS IS OF BULK AT MOST 1048576: true; the input reads as it did. -/
def latePastUptoRow : OpenClaim := { program := "ytgkpmckbdagkcaa", sum := "a15ab72007621824366a97ffb7e007828a446d2d9d06bec9d2f4d4dfa086b32d", func := "wakeman/wakemanlaw22.LatePast", spec := "latePast", inPlace := ["slices.overlaps[int]", "maps.clone"], unfollowed := true, recurses := true, apart := false, narrowed := true }
def LatePastUptoSaid : Prop := latePastUptoRow.holds Try.pinned (OpenSpec.upto latePastSpec)

/-- 'wakemanlaw22.LateTwice', WHERE WHAT IT READS IS OF BULK AT MOST 1048576: true; the input reads as it did. -/
def lateTwiceUptoRow : OpenClaim := { program := "ytgkpmckbdagkcaa", sum := "a15ab72007621824366a97ffb7e007828a446d2d9d06bec9d2f4d4dfa086b32d", func := "wakeman/wakemanlaw22.LateTwice", spec := "lateTwice", inPlace := ["slices.overlaps[int]", "maps.clone"], unfollowed := true, recurses := true, apart := false, narrowed := true }
def LateTwiceUptoSaid : Prop := lateTwiceUptoRow.holds Try.pinned (OpenSpec.upto lateTwiceSpec)

/-- 'wakemanlaw22.LateNext', WHERE WHAT IT READS IS OF BULK AT MOST 1048576: true; the input reads as it did. -/
def lateNextUptoRow : OpenClaim := { program := "ytgkpmckbdagkcaa", sum := "a15ab72007621824366a97ffb7e007828a446d2d9d06bec9d2f4d4dfa086b32d", func := "wakeman/wakemanlaw22.LateNext", spec := "lateNext", inPlace := ["slices.overlaps[int]", "maps.clone"], unfollowed := true, recurses := true, apart := false, narrowed := true }
def LateNextUptoSaid : Prop := lateNextUptoRow.holds Try.pinned (OpenSpec.upto lateNextSpec)

/-- 'wakemanlaw22.LateRemoves', WHERE WHAT IT READS IS OF BULK AT MOST 1048576: true; the input reads as it did. -/
def lateRemovesUptoRow : OpenClaim := { program := "ytgkpmckbdagkcaa", sum := "a15ab72007621824366a97ffb7e007828a446d2d9d06bec9d2f4d4dfa086b32d", func := "wakeman/wakemanlaw22.LateRemoves", spec := "lateRemoves", inPlace := ["slices.overlaps[int]", "maps.clone"], unfollowed := true, recurses := true, apart := false, narrowed := true }
def LateRemovesUptoSaid : Prop := lateRemovesUptoRow.holds Try.pinned (OpenSpec.upto lateRemovesSpec)

/-- 'wakemanlaw22.LateKeeps', WHERE WHAT IT READS IS OF BULK AT MOST 1048576: true; the input reads as it did. -/
def lateKeepsUptoRow : OpenClaim := { program := "ytgkpmckbdagkcaa", sum := "a15ab72007621824366a97ffb7e007828a446d2d9d06bec9d2f4d4dfa086b32d", func := "wakeman/wakemanlaw22.LateKeeps", spec := "lateKeeps", inPlace := ["slices.overlaps[int]", "maps.clone"], unfollowed := true, recurses := true, apart := false, narrowed := true }
def LateKeepsUptoSaid : Prop := lateKeepsUptoRow.holds Try.pinned (OpenSpec.upto lateKeepsSpec)

/-- 'wakemanlaw22.LateCopies', WHERE WHAT IT READS IS OF BULK AT MOST 1048576: true; the input reads as it did. -/
def lateCopiesUptoRow : OpenClaim := { program := "ytgkpmckbdagkcaa", sum := "a15ab72007621824366a97ffb7e007828a446d2d9d06bec9d2f4d4dfa086b32d", func := "wakeman/wakemanlaw22.LateCopies", spec := "lateCopies", inPlace := ["slices.overlaps[int]", "maps.clone"], unfollowed := true, recurses := true, apart := false, narrowed := true }
def LateCopiesUptoSaid : Prop := lateCopiesUptoRow.holds Try.pinned (OpenSpec.upto lateCopiesSpec)

end Rows
end Go.Proofs.Ytgkpmckbdagkcaa
