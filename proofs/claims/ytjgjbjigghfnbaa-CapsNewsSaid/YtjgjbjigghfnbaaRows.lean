/-
  No cell of these rows narrows 'for every input' (looked for: loops, veiled, ifaces, maps, wideKeys, modest, calm, conditions, laid).
  DERIVED. THE GIVEN ROWS OF THIS SEAT. 7 by the template 'for every input the law returns true; each argument reads behind the call as it read before'; 0 by the template 'total and deterministic' (their statements: YtjgjbjigghfnbaaTotals.lean).
  GIVEN WITH THE SEED: the statements are not yours to turn. If you find one false, say at which input.
  Laid BY PROGRAM, IN A SANDBOX (cutbox-rows.mjs): the forced cells as the released guide's own fill.sh prints them over the translation bf36430e9a8c5671… (all of the seat's roots in one cut). By AI agents, Wed Nov 11 2026. No macro, syntax, notation, axiom, sorry.
-/
import Derived.Test.YtjgjbjigghfnbaaChecked
import GoSem.Claim
import GoSem.ClaimJoined
import GoSem.ClaimMapViews
import Derived.JoinedTies
import Derived.KernelRfl
namespace Go.Proofs.Ytjgjbjigghfnbaa
/- THE CELL 'sum', in the pinned program and in every row, IS THE sha256 OF THE DUMP (.gsa) THAT YtjgjbjigghfnbaaProg.lean LOADS. Nothing in Lean hashes anything: it is a label: what it is worth is what the hold of that sum in a sandbox is worth. -/
noncomputable def Try.pinned : Pinned := { name := "ytjgjbjigghfnbaa", sum := "bf36430e9a8c56719978e297e16fd25d0e557947bf72b5ec5763de8aea39c519", checked := Try.checked }
namespace Rows
def none {H : Type} : Left H := { results := [], args := [] }

/-- 'wakemanlaw25.CapsLeft': WHATEVER THE INPUT: true; the input reads as it did. -/
def capsLeftSpec : ChangeSpec := { name := "capsLeft", fn := fun _ => fun
  | [d1, d2, d3, d4] => { results := [.lit (.bool true)], args := [d1, d2, d3, d4] }
  | _ => none }
def capsLeftRow : OpenClaim := { program := "ytjgjbjigghfnbaa", sum := "bf36430e9a8c56719978e297e16fd25d0e557947bf72b5ec5763de8aea39c519", func := "wakeman/wakemanlaw25.CapsLeft", spec := "capsLeft", unfollowed := true, recurses := true, apart := false }
def CapsLeftSaid : Prop := capsLeftRow.holds Try.pinned (OpenSpec.ofChange capsLeftSpec)

/-- ITS FALSE NEIGHBOUR: 'it returns false'. Refute it at one input. -/
def capsLeftWrong : ChangeSpec := { name := "capsLeft", fn := fun _ => fun
  | [d1, d2, d3, d4] => { results := [.lit (.bool false)], args := [d1, d2, d3, d4] }
  | _ => none }
def CapsLeftWrongFalsely : Prop := capsLeftRow.holds Try.pinned (OpenSpec.ofChange capsLeftWrong)

/-- 'wakemanlaw25.CapsMany': WHATEVER THE INPUT: true; the input reads as it did. -/
def capsManySpec : ChangeSpec := { name := "capsMany", fn := fun _ => fun
  | [d1, d2] => { results := [.lit (.bool true)], args := [d1, d2] }
  | _ => none }
def capsManyRow : OpenClaim := { program := "ytjgjbjigghfnbaa", sum := "bf36430e9a8c56719978e297e16fd25d0e557947bf72b5ec5763de8aea39c519", func := "wakeman/wakemanlaw25.CapsMany", spec := "capsMany", unfollowed := true, recurses := true, apart := false }
def CapsManySaid : Prop := capsManyRow.holds Try.pinned (OpenSpec.ofChange capsManySpec)

/-- ITS FALSE NEIGHBOUR: 'it returns false'. Refute it at one input. -/
def capsManyWrong : ChangeSpec := { name := "capsMany", fn := fun _ => fun
  | [d1, d2] => { results := [.lit (.bool false)], args := [d1, d2] }
  | _ => none }
def CapsManyWrongFalsely : Prop := capsManyRow.holds Try.pinned (OpenSpec.ofChange capsManyWrong)

/-- 'wakemanlaw25.CapsNever': WHATEVER THE INPUT: true; the input reads as it did. -/
def capsNeverSpec : ChangeSpec := { name := "capsNever", fn := fun _ => fun
  | [d1, d2, d3] => { results := [.lit (.bool true)], args := [d1, d2, d3] }
  | _ => none }
def capsNeverRow : OpenClaim := { program := "ytjgjbjigghfnbaa", sum := "bf36430e9a8c56719978e297e16fd25d0e557947bf72b5ec5763de8aea39c519", func := "wakeman/wakemanlaw25.CapsNever", spec := "capsNever", unfollowed := true, recurses := true, apart := false }
def CapsNeverSaid : Prop := capsNeverRow.holds Try.pinned (OpenSpec.ofChange capsNeverSpec)

/-- ITS FALSE NEIGHBOUR: 'it returns false'. Refute it at one input. -/
def capsNeverWrong : ChangeSpec := { name := "capsNever", fn := fun _ => fun
  | [d1, d2, d3] => { results := [.lit (.bool false)], args := [d1, d2, d3] }
  | _ => none }
def CapsNeverWrongFalsely : Prop := capsNeverRow.holds Try.pinned (OpenSpec.ofChange capsNeverWrong)

/-- 'wakemanlaw25.CapsOrder': WHATEVER THE INPUT: true; the input reads as it did. -/
def capsOrderSpec : ChangeSpec := { name := "capsOrder", fn := fun _ => fun
  | [d1, d2] => { results := [.lit (.bool true)], args := [d1, d2] }
  | _ => none }
def capsOrderRow : OpenClaim := { program := "ytjgjbjigghfnbaa", sum := "bf36430e9a8c56719978e297e16fd25d0e557947bf72b5ec5763de8aea39c519", func := "wakeman/wakemanlaw25.CapsOrder", spec := "capsOrder", unfollowed := true, recurses := true, apart := false }
def CapsOrderSaid : Prop := capsOrderRow.holds Try.pinned (OpenSpec.ofChange capsOrderSpec)

/-- ITS FALSE NEIGHBOUR: 'it returns false'. Refute it at one input. -/
def capsOrderWrong : ChangeSpec := { name := "capsOrder", fn := fun _ => fun
  | [d1, d2] => { results := [.lit (.bool false)], args := [d1, d2] }
  | _ => none }
def CapsOrderWrongFalsely : Prop := capsOrderRow.holds Try.pinned (OpenSpec.ofChange capsOrderWrong)

/-- 'wakemanlaw25.CapsPlays': WHATEVER THE INPUT: true; the input reads as it did. -/
def capsPlaysSpec : ChangeSpec := { name := "capsPlays", fn := fun _ => fun
  | [d1, d2, d3, d4] => { results := [.lit (.bool true)], args := [d1, d2, d3, d4] }
  | _ => none }
def capsPlaysRow : OpenClaim := { program := "ytjgjbjigghfnbaa", sum := "bf36430e9a8c56719978e297e16fd25d0e557947bf72b5ec5763de8aea39c519", func := "wakeman/wakemanlaw25.CapsPlays", spec := "capsPlays", unfollowed := true, recurses := true, apart := false }
def CapsPlaysSaid : Prop := capsPlaysRow.holds Try.pinned (OpenSpec.ofChange capsPlaysSpec)

/-- ITS FALSE NEIGHBOUR: 'it returns false'. Refute it at one input. -/
def capsPlaysWrong : ChangeSpec := { name := "capsPlays", fn := fun _ => fun
  | [d1, d2, d3, d4] => { results := [.lit (.bool false)], args := [d1, d2, d3, d4] }
  | _ => none }
def CapsPlaysWrongFalsely : Prop := capsPlaysRow.holds Try.pinned (OpenSpec.ofChange capsPlaysWrong)

/-- 'wakemanlaw25.CapsCopies': WHATEVER THE INPUT: true; the input reads as it did. -/
def capsCopiesSpec : ChangeSpec := { name := "capsCopies", fn := fun _ => fun
  | [d1, d2, d3] => { results := [.lit (.bool true)], args := [d1, d2, d3] }
  | _ => none }
def capsCopiesRow : OpenClaim := { program := "ytjgjbjigghfnbaa", sum := "bf36430e9a8c56719978e297e16fd25d0e557947bf72b5ec5763de8aea39c519", func := "wakeman/wakemanlaw25.CapsCopies", spec := "capsCopies", unfollowed := true, recurses := true, apart := false }
def CapsCopiesSaid : Prop := capsCopiesRow.holds Try.pinned (OpenSpec.ofChange capsCopiesSpec)

/-- ITS FALSE NEIGHBOUR: 'it returns false'. Refute it at one input. -/
def capsCopiesWrong : ChangeSpec := { name := "capsCopies", fn := fun _ => fun
  | [d1, d2, d3] => { results := [.lit (.bool false)], args := [d1, d2, d3] }
  | _ => none }
def CapsCopiesWrongFalsely : Prop := capsCopiesRow.holds Try.pinned (OpenSpec.ofChange capsCopiesWrong)

/-- 'wakemanlaw25.CapsNews': WHATEVER THE INPUT: true; the input reads as it did. -/
def capsNewsSpec : ChangeSpec := { name := "capsNews", fn := fun _ => fun
  | [d1, d2, d3] => { results := [.lit (.bool true)], args := [d1, d2, d3] }
  | _ => none }
def capsNewsRow : OpenClaim := { program := "ytjgjbjigghfnbaa", sum := "bf36430e9a8c56719978e297e16fd25d0e557947bf72b5ec5763de8aea39c519", func := "wakeman/wakemanlaw25.CapsNews", spec := "capsNews", unfollowed := true, recurses := true, apart := false }
def CapsNewsSaid : Prop := capsNewsRow.holds Try.pinned (OpenSpec.ofChange capsNewsSpec)

/-- ITS FALSE NEIGHBOUR: 'it returns false'. Refute it at one input. -/
def capsNewsWrong : ChangeSpec := { name := "capsNews", fn := fun _ => fun
  | [d1, d2, d3] => { results := [.lit (.bool false)], args := [d1, d2, d3] }
  | _ => none }
def CapsNewsWrongFalsely : Prop := capsNewsRow.holds Try.pinned (OpenSpec.ofChange capsNewsWrong)

/- THE SECOND FORM. 'bulk': how many values and letters a reading holds, each counted each time it is reached (what is shared counts as often as it is met; a slice's spare places count too). A statement '..UptoSaid' is the law's where the arguments, and the package variables that the reading takes, are together of bulk at most 1048576: NARROWER than '..Said'. Prove '..Said' where nothing that the law and all that it calls make is longer than what came in: it says more and counts as full. Else prove '..UptoSaid'. A law counts once. -/
mutual
def uptoBulk {H : Type} : DataW H → Nat
  | .lit (.string bytes) => bytes.length + 1
  | .lit _ => 1
  | .nil => 1
  | .ptr d => uptoBulk d + 1
  | .slice elems spare => uptoBulkAll elems + uptoBulkAll spare + 1
  | .agg parts => uptoBulkAll parts + 1
  | .iface _ d => uptoBulk d + 1
  | .map entries => uptoBulkEntries entries + 1
  | .held _ => 1
def uptoBulkAll {H : Type} : List (DataW H) → Nat
  | [] => 0
  | d :: r => uptoBulk d + uptoBulkAll r
def uptoBulkEntries {H : Type} : List (Lit × DataW H) → Nat
  | [] => 0
  | x :: r => uptoBulkEntry x + uptoBulkEntries r
def uptoBulkEntry {H : Type} : Lit × DataW H → Nat
  | (.string bytes, d) => bytes.length + uptoBulk d + 1
  | (_, d) => uptoBulk d + 1
 end
def uptoSmall : (H : Type) → List (DataW H) → Bool := fun _ ds => decide (uptoBulkAll ds ≤ 1048576)
def OpenSpec.upto (s : _root_.Go.ChangeSpec) : _root_.Go.OpenSpec := { _root_.Go.OpenSpec.ofChange s with cond := some uptoSmall }

/-- 'wakemanlaw25.CapsLeft', WHERE WHAT IT READS IS OF BULK AT MOST 1048576: true; the input reads as it did. -/
def capsLeftUptoRow : OpenClaim := { program := "ytjgjbjigghfnbaa", sum := "bf36430e9a8c56719978e297e16fd25d0e557947bf72b5ec5763de8aea39c519", func := "wakeman/wakemanlaw25.CapsLeft", spec := "capsLeft", unfollowed := true, recurses := true, apart := false, narrowed := true }
def CapsLeftUptoSaid : Prop := capsLeftUptoRow.holds Try.pinned (OpenSpec.upto capsLeftSpec)

/-- 'wakemanlaw25.CapsMany', WHERE WHAT IT READS IS OF BULK AT MOST 1048576: true; the input reads as it did. -/
def capsManyUptoRow : OpenClaim := { program := "ytjgjbjigghfnbaa", sum := "bf36430e9a8c56719978e297e16fd25d0e557947bf72b5ec5763de8aea39c519", func := "wakeman/wakemanlaw25.CapsMany", spec := "capsMany", unfollowed := true, recurses := true, apart := false, narrowed := true }
def CapsManyUptoSaid : Prop := capsManyUptoRow.holds Try.pinned (OpenSpec.upto capsManySpec)

/-- 'wakemanlaw25.CapsNever', WHERE WHAT IT READS IS OF BULK AT MOST 1048576: true; the input reads as it did. -/
def capsNeverUptoRow : OpenClaim := { program := "ytjgjbjigghfnbaa", sum := "bf36430e9a8c56719978e297e16fd25d0e557947bf72b5ec5763de8aea39c519", func := "wakeman/wakemanlaw25.CapsNever", spec := "capsNever", unfollowed := true, recurses := true, apart := false, narrowed := true }
def CapsNeverUptoSaid : Prop := capsNeverUptoRow.holds Try.pinned (OpenSpec.upto capsNeverSpec)

/-- 'wakemanlaw25.CapsOrder', WHERE WHAT IT READS IS OF BULK AT MOST 1048576: true; the input reads as it did. -/
def capsOrderUptoRow : OpenClaim := { program := "ytjgjbjigghfnbaa", sum := "bf36430e9a8c56719978e297e16fd25d0e557947bf72b5ec5763de8aea39c519", func := "wakeman/wakemanlaw25.CapsOrder", spec := "capsOrder", unfollowed := true, recurses := true, apart := false, narrowed := true }
def CapsOrderUptoSaid : Prop := capsOrderUptoRow.holds Try.pinned (OpenSpec.upto capsOrderSpec)

/-- 'wakemanlaw25.CapsPlays', WHERE WHAT IT READS IS OF BULK AT MOST 1048576: true; the input reads as it did. -/
def capsPlaysUptoRow : OpenClaim := { program := "ytjgjbjigghfnbaa", sum := "bf36430e9a8c56719978e297e16fd25d0e557947bf72b5ec5763de8aea39c519", func := "wakeman/wakemanlaw25.CapsPlays", spec := "capsPlays", unfollowed := true, recurses := true, apart := false, narrowed := true }
def CapsPlaysUptoSaid : Prop := capsPlaysUptoRow.holds Try.pinned (OpenSpec.upto capsPlaysSpec)

/-- 'wakemanlaw25.CapsCopies', WHERE WHAT IT READS IS OF BULK AT MOST 1048576: true; the input reads as it did. -/
def capsCopiesUptoRow : OpenClaim := { program := "ytjgjbjigghfnbaa", sum := "bf36430e9a8c56719978e297e16fd25d0e557947bf72b5ec5763de8aea39c519", func := "wakeman/wakemanlaw25.CapsCopies", spec := "capsCopies", unfollowed := true, recurses := true, apart := false, narrowed := true }
def CapsCopiesUptoSaid : Prop := capsCopiesUptoRow.holds Try.pinned (OpenSpec.upto capsCopiesSpec)

/-- 'wakemanlaw25.CapsNews', WHERE WHAT IT READS IS OF BULK AT MOST 1048576: true; the input reads as it did. -/
def capsNewsUptoRow : OpenClaim := { program := "ytjgjbjigghfnbaa", sum := "bf36430e9a8c56719978e297e16fd25d0e557947bf72b5ec5763de8aea39c519", func := "wakeman/wakemanlaw25.CapsNews", spec := "capsNews", unfollowed := true, recurses := true, apart := false, narrowed := true }
def CapsNewsUptoSaid : Prop := capsNewsUptoRow.holds Try.pinned (OpenSpec.upto capsNewsSpec)

end Rows
end Go.Proofs.Ytjgjbjigghfnbaa
