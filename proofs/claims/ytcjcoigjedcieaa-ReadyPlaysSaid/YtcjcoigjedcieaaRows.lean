/-
  No cell of these rows narrows 'for every input' (looked for: loops, veiled, ifaces, maps, wideKeys, modest, calm, conditions, laid).
  DERIVED. THE GIVEN ROWS OF THIS SEAT. 8 by the template 'for every input the law returns true; each argument reads behind the call as it read before'; 0 by the template 'total and deterministic' (their statements: YtcjcoigjedcieaaTotals.lean).
  GIVEN WITH THE SEED: the statements are not yours to turn. If you find one false, say at which input.
  Laid BY PROGRAM, IN A SANDBOX (cutbox-rows.mjs): the forced cells as the released guide's own fill.sh prints them over the translation b9f258b24bd3c886… (all of the seat's roots in one cut). By AI agents, Wed Nov 11 2026. No macro, syntax, notation, axiom, sorry.
-/
import Derived.Test.YtcjcoigjedcieaaChecked
import GoSem.Claim
import GoSem.ClaimJoined
import GoSem.ClaimMapViews
import Derived.JoinedTies
import Derived.KernelRfl
namespace Go.Proofs.Ytcjcoigjedcieaa
/- THE CELL 'sum', in the pinned program and in every row, IS THE sha256 OF THE DUMP (.gsa) THAT YtcjcoigjedcieaaProg.lean LOADS. Nothing in Lean hashes anything: it is a label: what it is worth is what the hold of that sum in a sandbox is worth. -/
noncomputable def Try.pinned : Pinned := { name := "ytcjcoigjedcieaa", sum := "b9f258b24bd3c886843e9d3f885cc2d75b63144609ad3ee0632d2e02defdfc5a", checked := Try.checked }
namespace Rows
def none {H : Type} : Left H := { results := [], args := [] }

/-- 'wakemanlaw21.ReadyOrder': WHATEVER THE INPUT: true; the input reads as it did. -/
def readyOrderSpec : ChangeSpec := { name := "readyOrder", fn := fun _ => fun
  | [d1, d2] => { results := [.lit (.bool true)], args := [d1, d2] }
  | _ => none }
def readyOrderRow : OpenClaim := { program := "ytcjcoigjedcieaa", sum := "b9f258b24bd3c886843e9d3f885cc2d75b63144609ad3ee0632d2e02defdfc5a", func := "wakeman/wakemanlaw21.ReadyOrder", spec := "readyOrder", inPlace := ["slices.overlaps[wakeman/api.Item]"], unfollowed := true, recurses := true, apart := false }
def ReadyOrderSaid : Prop := readyOrderRow.holds Try.pinned (OpenSpec.ofChange readyOrderSpec)

/-- ITS FALSE NEIGHBOUR: 'it returns false'. Refute it at one input. -/
def readyOrderWrong : ChangeSpec := { name := "readyOrder", fn := fun _ => fun
  | [d1, d2] => { results := [.lit (.bool false)], args := [d1, d2] }
  | _ => none }
def ReadyOrderWrongFalsely : Prop := readyOrderRow.holds Try.pinned (OpenSpec.ofChange readyOrderWrong)

/-- 'wakemanlaw21.ReadyWaits': WHATEVER THE INPUT: true; the input reads as it did. -/
def readyWaitsSpec : ChangeSpec := { name := "readyWaits", fn := fun _ => fun
  | [d1, d2, d3] => { results := [.lit (.bool true)], args := [d1, d2, d3] }
  | _ => none }
def readyWaitsRow : OpenClaim := { program := "ytcjcoigjedcieaa", sum := "b9f258b24bd3c886843e9d3f885cc2d75b63144609ad3ee0632d2e02defdfc5a", func := "wakeman/wakemanlaw21.ReadyWaits", spec := "readyWaits", inPlace := ["slices.overlaps[wakeman/api.Item]"], unfollowed := true, recurses := true, apart := false }
def ReadyWaitsSaid : Prop := readyWaitsRow.holds Try.pinned (OpenSpec.ofChange readyWaitsSpec)

/-- ITS FALSE NEIGHBOUR: 'it returns false'. Refute it at one input. -/
def readyWaitsWrong : ChangeSpec := { name := "readyWaits", fn := fun _ => fun
  | [d1, d2, d3] => { results := [.lit (.bool false)], args := [d1, d2, d3] }
  | _ => none }
def ReadyWaitsWrongFalsely : Prop := readyWaitsRow.holds Try.pinned (OpenSpec.ofChange readyWaitsWrong)

/-- 'wakemanlaw21.ReadyAgain': WHATEVER THE INPUT: true; the input reads as it did. -/
def readyAgainSpec : ChangeSpec := { name := "readyAgain", fn := fun _ => fun
  | [d1, d2, d3] => { results := [.lit (.bool true)], args := [d1, d2, d3] }
  | _ => none }
def readyAgainRow : OpenClaim := { program := "ytcjcoigjedcieaa", sum := "b9f258b24bd3c886843e9d3f885cc2d75b63144609ad3ee0632d2e02defdfc5a", func := "wakeman/wakemanlaw21.ReadyAgain", spec := "readyAgain", inPlace := ["slices.overlaps[wakeman/api.Item]"], unfollowed := true, recurses := true, apart := false }
def ReadyAgainSaid : Prop := readyAgainRow.holds Try.pinned (OpenSpec.ofChange readyAgainSpec)

/-- ITS FALSE NEIGHBOUR: 'it returns false'. Refute it at one input. -/
def readyAgainWrong : ChangeSpec := { name := "readyAgain", fn := fun _ => fun
  | [d1, d2, d3] => { results := [.lit (.bool false)], args := [d1, d2, d3] }
  | _ => none }
def ReadyAgainWrongFalsely : Prop := readyAgainRow.holds Try.pinned (OpenSpec.ofChange readyAgainWrong)

/-- 'wakemanlaw21.ReadyPicks': WHATEVER THE INPUT: true; the input reads as it did. -/
def readyPicksSpec : ChangeSpec := { name := "readyPicks", fn := fun _ => fun
  | [d1, d2, d3] => { results := [.lit (.bool true)], args := [d1, d2, d3] }
  | _ => none }
def readyPicksRow : OpenClaim := { program := "ytcjcoigjedcieaa", sum := "b9f258b24bd3c886843e9d3f885cc2d75b63144609ad3ee0632d2e02defdfc5a", func := "wakeman/wakemanlaw21.ReadyPicks", spec := "readyPicks", inPlace := ["slices.overlaps[wakeman/api.Item]"], unfollowed := true, recurses := true, apart := false }
def ReadyPicksSaid : Prop := readyPicksRow.holds Try.pinned (OpenSpec.ofChange readyPicksSpec)

/-- ITS FALSE NEIGHBOUR: 'it returns false'. Refute it at one input. -/
def readyPicksWrong : ChangeSpec := { name := "readyPicks", fn := fun _ => fun
  | [d1, d2, d3] => { results := [.lit (.bool false)], args := [d1, d2, d3] }
  | _ => none }
def ReadyPicksWrongFalsely : Prop := readyPicksRow.holds Try.pinned (OpenSpec.ofChange readyPicksWrong)

/-- 'wakemanlaw21.ReadyKeeps': WHATEVER THE INPUT: true; the input reads as it did. -/
def readyKeepsSpec : ChangeSpec := { name := "readyKeeps", fn := fun _ => fun
  | [d1, d2, d3] => { results := [.lit (.bool true)], args := [d1, d2, d3] }
  | _ => none }
def readyKeepsRow : OpenClaim := { program := "ytcjcoigjedcieaa", sum := "b9f258b24bd3c886843e9d3f885cc2d75b63144609ad3ee0632d2e02defdfc5a", func := "wakeman/wakemanlaw21.ReadyKeeps", spec := "readyKeeps", inPlace := ["slices.overlaps[wakeman/api.Item]"], unfollowed := true, recurses := true, apart := false }
def ReadyKeepsSaid : Prop := readyKeepsRow.holds Try.pinned (OpenSpec.ofChange readyKeepsSpec)

/-- ITS FALSE NEIGHBOUR: 'it returns false'. Refute it at one input. -/
def readyKeepsWrong : ChangeSpec := { name := "readyKeeps", fn := fun _ => fun
  | [d1, d2, d3] => { results := [.lit (.bool false)], args := [d1, d2, d3] }
  | _ => none }
def ReadyKeepsWrongFalsely : Prop := readyKeepsRow.holds Try.pinned (OpenSpec.ofChange readyKeepsWrong)

/-- 'wakemanlaw21.ReadyFull': WHATEVER THE INPUT: true; the input reads as it did. -/
def readyFullSpec : ChangeSpec := { name := "readyFull", fn := fun _ => fun
  | [d] => { results := [.lit (.bool true)], args := [d] }
  | _ => none }
def readyFullRow : OpenClaim := { program := "ytcjcoigjedcieaa", sum := "b9f258b24bd3c886843e9d3f885cc2d75b63144609ad3ee0632d2e02defdfc5a", func := "wakeman/wakemanlaw21.ReadyFull", spec := "readyFull", inPlace := ["slices.overlaps[wakeman/api.Item]", "maps.clone"], unfollowed := true, recurses := true, apart := false }
def ReadyFullSaid : Prop := readyFullRow.holds Try.pinned (OpenSpec.ofChange readyFullSpec)

/-- ITS FALSE NEIGHBOUR: 'it returns false'. Refute it at one input. -/
def readyFullWrong : ChangeSpec := { name := "readyFull", fn := fun _ => fun
  | [d] => { results := [.lit (.bool false)], args := [d] }
  | _ => none }
def ReadyFullWrongFalsely : Prop := readyFullRow.holds Try.pinned (OpenSpec.ofChange readyFullWrong)

/-- 'wakemanlaw21.ReadyNews': WHATEVER THE INPUT: true; the input reads as it did. -/
def readyNewsSpec : ChangeSpec := { name := "readyNews", fn := fun _ => fun
  | [d1, d2, d3, d4, d5] => { results := [.lit (.bool true)], args := [d1, d2, d3, d4, d5] }
  | _ => none }
def readyNewsRow : OpenClaim := { program := "ytcjcoigjedcieaa", sum := "b9f258b24bd3c886843e9d3f885cc2d75b63144609ad3ee0632d2e02defdfc5a", func := "wakeman/wakemanlaw21.ReadyNews", spec := "readyNews", inPlace := ["slices.overlaps[wakeman/api.Item]", "maps.clone"], unfollowed := true, recurses := true, apart := false }
def ReadyNewsSaid : Prop := readyNewsRow.holds Try.pinned (OpenSpec.ofChange readyNewsSpec)

/-- ITS FALSE NEIGHBOUR: 'it returns false'. Refute it at one input. -/
def readyNewsWrong : ChangeSpec := { name := "readyNews", fn := fun _ => fun
  | [d1, d2, d3, d4, d5] => { results := [.lit (.bool false)], args := [d1, d2, d3, d4, d5] }
  | _ => none }
def ReadyNewsWrongFalsely : Prop := readyNewsRow.holds Try.pinned (OpenSpec.ofChange readyNewsWrong)

/-- 'wakemanlaw21.ReadyPlays': WHATEVER THE INPUT: true; the input reads as it did. -/
def readyPlaysSpec : ChangeSpec := { name := "readyPlays", fn := fun _ => fun
  | [d1, d2, d3, d4] => { results := [.lit (.bool true)], args := [d1, d2, d3, d4] }
  | _ => none }
def readyPlaysRow : OpenClaim := { program := "ytcjcoigjedcieaa", sum := "b9f258b24bd3c886843e9d3f885cc2d75b63144609ad3ee0632d2e02defdfc5a", func := "wakeman/wakemanlaw21.ReadyPlays", spec := "readyPlays", inPlace := ["slices.overlaps[wakeman/api.Item]", "maps.clone"], unfollowed := true, recurses := true, apart := false }
def ReadyPlaysSaid : Prop := readyPlaysRow.holds Try.pinned (OpenSpec.ofChange readyPlaysSpec)

/-- ITS FALSE NEIGHBOUR: 'it returns false'. Refute it at one input. -/
def readyPlaysWrong : ChangeSpec := { name := "readyPlays", fn := fun _ => fun
  | [d1, d2, d3, d4] => { results := [.lit (.bool false)], args := [d1, d2, d3, d4] }
  | _ => none }
def ReadyPlaysWrongFalsely : Prop := readyPlaysRow.holds Try.pinned (OpenSpec.ofChange readyPlaysWrong)

/- THE SECOND FORM. 'bulk': how many values and letters a reading holds, each counted each time it is reached (what is shared counts as often as it is met; a slice's spare places count too). A statement '..UptoSaid' is the law's where the arguments, and the package variables that the reading takes, are together of bulk at most 1048576: NARROWER than '..Said'. Prove '..Said' where nothing that the law and all that it calls make is longer than what came in: it says more and counts as full. Else prove '..UptoSaid'. A law counts once. -/
mutual
def uptoBulk {H : Type} : DataW H → Nat
  | .lit (.string bytes) => bytes.length + 1
  | .lit _ => 1
  | .nil => 1
  | .ptr d => uptoBulk d + 1
  | .slice elems spare => uptoBulkAll elems + uptoBulkAll spare + 1
  | .agg parts => uptoBulkAll parts + 1
  | .iface _ d => uptoBulk d + 1
  | .map entries => uptoBulkEntries entries + 1
  | .held _ => 1
def uptoBulkAll {H : Type} : List (DataW H) → Nat
  | [] => 0
  | d :: r => uptoBulk d + uptoBulkAll r
def uptoBulkEntries {H : Type} : List (Lit × DataW H) → Nat
  | [] => 0
  | x :: r => uptoBulkEntry x + uptoBulkEntries r
def uptoBulkEntry {H : Type} : Lit × DataW H → Nat
  | (.string bytes, d) => bytes.length + uptoBulk d + 1
  | (_, d) => uptoBulk d + 1
 end
def uptoSmall : (H : Type) → List (DataW H) → Bool := fun _ ds => decide (uptoBulkAll ds ≤ 1048576)
def OpenSpec.upto (s : _root_.Go.ChangeSpec) : _root_.Go.OpenSpec := { _root_.Go.OpenSpec.ofChange s with cond := some uptoSmall }

/-- 'wakemanlaw21.ReadyOrder', WHERE WHAT IT READS IS OF BULK AT MOST 1048576: true; the input reads as it did. -/
def readyOrderUptoRow : OpenClaim := { program := "ytcjcoigjedcieaa", sum := "b9f258b24bd3c886843e9d3f885cc2d75b63144609ad3ee0632d2e02defdfc5a", func := "wakeman/wakemanlaw21.ReadyOrder", spec := "readyOrder", inPlace := ["slices.overlaps[wakeman/api.Item]"], unfollowed := true, recurses := true, apart := false, narrowed := true }
def ReadyOrderUptoSaid : Prop := readyOrderUptoRow.holds Try.pinned (OpenSpec.upto readyOrderSpec)

/-- 'wakemanlaw21.ReadyWaits', WHERE WHAT IT READS IS OF BULK AT MOST 1048576: true; the input reads as it did. -/
def readyWaitsUptoRow : OpenClaim := { program := "ytcjcoigjedcieaa", sum := "b9f258b24bd3c886843e9d3f885cc2d75b63144609ad3ee0632d2e02defdfc5a", func := "wakeman/wakemanlaw21.ReadyWaits", spec := "readyWaits", inPlace := ["slices.overlaps[wakeman/api.Item]"], unfollowed := true, recurses := true, apart := false, narrowed := true }
def ReadyWaitsUptoSaid : Prop := readyWaitsUptoRow.holds Try.pinned (OpenSpec.upto readyWaitsSpec)

/-- 'wakemanlaw21.ReadyAgain', WHERE WHAT IT READS IS OF BULK AT MOST 1048576: true; the input reads as it did. -/
def readyAgainUptoRow : OpenClaim := { program := "ytcjcoigjedcieaa", sum := "b9f258b24bd3c886843e9d3f885cc2d75b63144609ad3ee0632d2e02defdfc5a", func := "wakeman/wakemanlaw21.ReadyAgain", spec := "readyAgain", inPlace := ["slices.overlaps[wakeman/api.Item]"], unfollowed := true, recurses := true, apart := false, narrowed := true }
def ReadyAgainUptoSaid : Prop := readyAgainUptoRow.holds Try.pinned (OpenSpec.upto readyAgainSpec)

/-- 'wakemanlaw21.ReadyPicks', WHERE WHAT IT READS IS OF BULK AT MOST 1048576: true; the input reads as it did. -/
def readyPicksUptoRow : OpenClaim := { program := "ytcjcoigjedcieaa", sum := "b9f258b24bd3c886843e9d3f885cc2d75b63144609ad3ee0632d2e02defdfc5a", func := "wakeman/wakemanlaw21.ReadyPicks", spec := "readyPicks", inPlace := ["slices.overlaps[wakeman/api.Item]"], unfollowed := true, recurses := true, apart := false, narrowed := true }
def ReadyPicksUptoSaid : Prop := readyPicksUptoRow.holds Try.pinned (OpenSpec.upto readyPicksSpec)

/-- 'wakemanlaw21.ReadyKeeps', WHERE WHAT IT READS IS OF BULK AT MOST 1048576: true; the input reads as it did. -/
def readyKeepsUptoRow : OpenClaim := { program := "ytcjcoigjedcieaa", sum := "b9f258b24bd3c886843e9d3f885cc2d75b63144609ad3ee0632d2e02defdfc5a", func := "wakeman/wakemanlaw21.ReadyKeeps", spec := "readyKeeps", inPlace := ["slices.overlaps[wakeman/api.Item]"], unfollowed := true, recurses := true, apart := false, narrowed := true }
def ReadyKeepsUptoSaid : Prop := readyKeepsUptoRow.holds Try.pinned (OpenSpec.upto readyKeepsSpec)

/-- 'wakemanlaw21.ReadyFull', WHERE WHAT IT READS IS OF BULK AT MOST 1048576: true; the input reads as it did. -/
def readyFullUptoRow : OpenClaim := { program := "ytcjcoigjedcieaa", sum := "b9f258b24bd3c886843e9d3f885cc2d75b63144609ad3ee0632d2e02defdfc5a", func := "wakeman/wakemanlaw21.ReadyFull", spec := "readyFull", inPlace := ["slices.overlaps[wakeman/api.Item]", "maps.clone"], unfollowed := true, recurses := true, apart := false, narrowed := true }
def ReadyFullUptoSaid : Prop := readyFullUptoRow.holds Try.pinned (OpenSpec.upto readyFullSpec)

/-- 'wakemanlaw21.ReadyNews', WHERE WHAT IT READS IS OF BULK AT MOST 1048576: true; the input reads as it did. -/
def readyNewsUptoRow : OpenClaim := { program := "ytcjcoigjedcieaa", sum := "b9f258b24bd3c886843e9d3f885cc2d75b63144609ad3ee0632d2e02defdfc5a", func := "wakeman/wakemanlaw21.ReadyNews", spec := "readyNews", inPlace := ["slices.overlaps[wakeman/api.Item]", "maps.clone"], unfollowed := true, recurses := true, apart := false, narrowed := true }
def ReadyNewsUptoSaid : Prop := readyNewsUptoRow.holds Try.pinned (OpenSpec.upto readyNewsSpec)

/-- 'wakemanlaw21.ReadyPlays', WHERE WHAT IT READS IS OF BULK AT MOST 1048576: true; the input reads as it did. -/
def readyPlaysUptoRow : OpenClaim := { program := "ytcjcoigjedcieaa", sum := "b9f258b24bd3c886843e9d3f885cc2d75b63144609ad3ee0632d2e02defdfc5a", func := "wakeman/wakemanlaw21.ReadyPlays", spec := "readyPlays", inPlace := ["slices.overlaps[wakeman/api.Item]", "maps.clone"], unfollowed := true, recurses := true, apart := false, narrowed := true }
def ReadyPlaysUptoSaid : Prop := readyPlaysUptoRow.holds Try.pinned (OpenSpec.upto readyPlaysSpec)

end Rows
end Go.Proofs.Ytcjcoigjedcieaa
