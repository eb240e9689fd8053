/-
  No cell of these rows narrows 'for every input' (looked for: loops, veiled, ifaces, maps, wideKeys, modest, calm, conditions, laid).
  DERIVED. THE GIVEN ROWS OF THIS SEAT. 4 by the template 'for every input the law returns true; each argument reads behind the call as it read before'; 0 by the template 'total and deterministic' (their statements: YthjpjekaiflibaaTotals.lean).
  GIVEN WITH THE SEED: the statements are not yours to turn. If you find one false, say at which input.
  Laid BY PROGRAM, IN A SANDBOX (cutbox-rows.mjs): the forced cells as the released guide's own fill.sh prints them over the translation a63a1d2f0549c421… (all of the seat's roots in one cut). By AI agents, Wed Nov 11 2026. No macro, syntax, notation, axiom, sorry.
-/
import Derived.Test.YthjpjekaiflibaaChecked
import GoSem.Claim
import GoSem.ClaimJoined
import GoSem.ClaimMapViews
import Derived.JoinedTies
import Derived.KernelRfl
namespace Go.Proofs.Ythjpjekaiflibaa
/- THE CELL 'sum', in the pinned program and in every row, IS THE sha256 OF THE DUMP (.gsa) THAT YthjpjekaiflibaaProg.lean LOADS. Nothing in Lean hashes anything: it is a label: what it is worth is what the hold of that sum in a sandbox is worth. -/
noncomputable def Try.pinned : Pinned := { name := "ythjpjekaiflibaa", sum := "a63a1d2f0549c4217a8ce3d72a4d78864bfd32749fad30a5a1e5fed2f83a6ab7", checked := Try.checked }
namespace Rows
def none {H : Type} : Left H := { results := [], args := [] }

/-- 'countinghouselaw17.DisksFuse': WHATEVER THE INPUT: true; the input reads as it did. -/
def disksFuseSpec : ChangeSpec := { name := "disksFuse", fn := fun _ => fun
  | [d1, d2] => { results := [.lit (.bool true)], args := [d1, d2] }
  | _ => none }
def disksFuseRow : OpenClaim := { program := "ythjpjekaiflibaa", sum := "a63a1d2f0549c4217a8ce3d72a4d78864bfd32749fad30a5a1e5fed2f83a6ab7", func := "countinghouse/countinghouselaw17.DisksFuse", spec := "disksFuse", unfollowed := true, recurses := true, apart := false }
def DisksFuseSaid : Prop := disksFuseRow.holds Try.pinned (OpenSpec.ofChange disksFuseSpec)

/-- ITS FALSE NEIGHBOUR: 'it returns false'. Refute it at one input. -/
def disksFuseWrong : ChangeSpec := { name := "disksFuse", fn := fun _ => fun
  | [d1, d2] => { results := [.lit (.bool false)], args := [d1, d2] }
  | _ => none }
def DisksFuseWrongFalsely : Prop := disksFuseRow.holds Try.pinned (OpenSpec.ofChange disksFuseWrong)

/-- 'countinghouselaw17.DisksPlay': WHATEVER THE INPUT: true; the input reads as it did. -/
def disksPlaySpec : ChangeSpec := { name := "disksPlay", fn := fun _ => fun
  | [d] => { results := [.lit (.bool true)], args := [d] }
  | _ => none }
def disksPlayRow : OpenClaim := { program := "ythjpjekaiflibaa", sum := "a63a1d2f0549c4217a8ce3d72a4d78864bfd32749fad30a5a1e5fed2f83a6ab7", func := "countinghouse/countinghouselaw17.DisksPlay", spec := "disksPlay", unfollowed := true, recurses := true, apart := false }
def DisksPlaySaid : Prop := disksPlayRow.holds Try.pinned (OpenSpec.ofChange disksPlaySpec)

/-- ITS FALSE NEIGHBOUR: 'it returns false'. Refute it at one input. -/
def disksPlayWrong : ChangeSpec := { name := "disksPlay", fn := fun _ => fun
  | [d] => { results := [.lit (.bool false)], args := [d] }
  | _ => none }
def DisksPlayWrongFalsely : Prop := disksPlayRow.holds Try.pinned (OpenSpec.ofChange disksPlayWrong)

/-- 'countinghouselaw17.DisksVoid': WHATEVER THE INPUT: true; the input reads as it did. -/
def disksVoidSpec : ChangeSpec := { name := "disksVoid", fn := fun _ => fun
  | [d] => { results := [.lit (.bool true)], args := [d] }
  | _ => none }
def disksVoidRow : OpenClaim := { program := "ythjpjekaiflibaa", sum := "a63a1d2f0549c4217a8ce3d72a4d78864bfd32749fad30a5a1e5fed2f83a6ab7", func := "countinghouse/countinghouselaw17.DisksVoid", spec := "disksVoid", unfollowed := true, recurses := true, apart := false }
def DisksVoidSaid : Prop := disksVoidRow.holds Try.pinned (OpenSpec.ofChange disksVoidSpec)

/-- ITS FALSE NEIGHBOUR: 'it returns false'. Refute it at one input. -/
def disksVoidWrong : ChangeSpec := { name := "disksVoid", fn := fun _ => fun
  | [d] => { results := [.lit (.bool false)], args := [d] }
  | _ => none }
def DisksVoidWrongFalsely : Prop := disksVoidRow.holds Try.pinned (OpenSpec.ofChange disksVoidWrong)

/-- 'countinghouselaw17.DisksSure': WHATEVER THE INPUT: true; the input reads as it did. -/
def disksSureSpec : ChangeSpec := { name := "disksSure", fn := fun _ => fun
  | [d] => { results := [.lit (.bool true)], args := [d] }
  | _ => none }
def disksSureRow : OpenClaim := { program := "ythjpjekaiflibaa", sum := "a63a1d2f0549c4217a8ce3d72a4d78864bfd32749fad30a5a1e5fed2f83a6ab7", func := "countinghouse/countinghouselaw17.DisksSure", spec := "disksSure", unfollowed := true, recurses := true, apart := false }
def DisksSureSaid : Prop := disksSureRow.holds Try.pinned (OpenSpec.ofChange disksSureSpec)

/-- ITS FALSE NEIGHBOUR: 'it returns false'. Refute it at one input. -/
def disksSureWrong : ChangeSpec := { name := "disksSure", fn := fun _ => fun
  | [d] => { results := [.lit (.bool false)], args := [d] }
  | _ => none }
def DisksSureWrongFalsely : Prop := disksSureRow.holds Try.pinned (OpenSpec.ofChange disksSureWrong)

/- THE SECOND FORM. 'bulk': how many values and letters a reading holds, each counted each time it is reached (what is shared counts as often as it is met; a slice's spare places count too). A statement '..UptoSaid' is the law's where the arguments, and the package variables that the reading takes, are together of bulk at most 1048576: NARROWER than '..Said'. Prove '..Said' where nothing that the law and all that it calls make is longer than what came in: it says more and counts as full. Else prove '..UptoSaid'. A law counts once. -/
mutual
def uptoBulk {H : Type} : DataW H → Nat
  | .lit (.string bytes) => bytes.length + 1
  | .lit _ => 1
  | .nil => 1
  | .ptr d => uptoBulk d + 1
  | .slice elems spare => uptoBulkAll elems + uptoBulkAll spare + 1
  | .agg parts => uptoBulkAll parts + 1
  | .iface _ d => uptoBulk d + 1
  | .map entries => uptoBulkEntries entries + 1
  | .held _ => 1
def uptoBulkAll {H : Type} : List (DataW H) → Nat
  | [] => 0
  | d :: r => uptoBulk d + uptoBulkAll r
def uptoBulkEntries {H : Type} : List (Lit × DataW H) → Nat
  | [] => 0
  | x :: r => uptoBulkEntry x + uptoBulkEntries r
def uptoBulkEntry {H : Type} : Lit × DataW H → Nat
  | (.string bytes, d) => bytes.length + uptoBulk d + 1
  | (_, d) => uptoBulk d + 1
 end
def uptoSmall : (H : Type) → List (DataW H) → Bool := fun _ ds => decide (uptoBulkAll ds ≤ 1048576)
def OpenSpec.upto (s : _root_.Go.ChangeSpec) : _root_.Go.OpenSpec := { _root_.Go.OpenSpec.ofChange s with cond := some uptoSmall }

/-- 'countinghouselaw17.DisksFuse', WHERE WHAT IT READS IS OF BULK AT MOST 1048576: true; the input reads as it did. -/
def disksFuseUptoRow : OpenClaim := { program := "ythjpjekaiflibaa", sum := "a63a1d2f0549c4217a8ce3d72a4d78864bfd32749fad30a5a1e5fed2f83a6ab7", func := "countinghouse/countinghouselaw17.DisksFuse", spec := "disksFuse", unfollowed := true, recurses := true, apart := false, narrowed := true }
def DisksFuseUptoSaid : Prop := disksFuseUptoRow.holds Try.pinned (OpenSpec.upto disksFuseSpec)

/-- 'countinghouselaw17.DisksPlay', WHERE WHAT IT READS IS OF BULK AT MOST 1048576: true; the input reads as it did. -/
def disksPlayUptoRow : OpenClaim := { program := "ythjpjekaiflibaa", sum := "a63a1d2f0549c4217a8ce3d72a4d78864bfd32749fad30a5a1e5fed2f83a6ab7", func := "countinghouse/countinghouselaw17.DisksPlay", spec := "disksPlay", unfollowed := true, recurses := true, apart := false, narrowed := true }
def DisksPlayUptoSaid : Prop := disksPlayUptoRow.holds Try.pinned (OpenSpec.upto disksPlaySpec)

/-- 'countinghouselaw17.DisksVoid', WHERE WHAT IT READS IS OF BULK AT MOST 1048576: true; the input reads as it did. -/
def disksVoidUptoRow : OpenClaim := { program := "ythjpjekaiflibaa", sum := "a63a1d2f0549c4217a8ce3d72a4d78864bfd32749fad30a5a1e5fed2f83a6ab7", func := "countinghouse/countinghouselaw17.DisksVoid", spec := "disksVoid", unfollowed := true, recurses := true, apart := false, narrowed := true }
def DisksVoidUptoSaid : Prop := disksVoidUptoRow.holds Try.pinned (OpenSpec.upto disksVoidSpec)

/-- 'countinghouselaw17.DisksSure', WHERE WHAT IT READS IS OF BULK AT MOST 1048576: true; the input reads as it did. -/
def disksSureUptoRow : OpenClaim := { program := "ythjpjekaiflibaa", sum := "a63a1d2f0549c4217a8ce3d72a4d78864bfd32749fad30a5a1e5fed2f83a6ab7", func := "countinghouse/countinghouselaw17.DisksSure", spec := "disksSure", unfollowed := true, recurses := true, apart := false, narrowed := true }
def DisksSureUptoSaid : Prop := disksSureUptoRow.holds Try.pinned (OpenSpec.upto disksSureSpec)

end Rows
end Go.Proofs.Ythjpjekaiflibaa
