/-
  NARROWER THAN 'FOR EVERY INPUT', by the rows' own cells (each row's printed sentence says how): StatesVoid: laid · ShotsVoid: laid · LogsOpened: laid · LogsVoid: laid · StatesOne: laid · StatesPlay: laid · ShotsSure: laid.
  DERIVED. THE GIVEN ROWS OF THIS SEAT. 7 by the template 'for every input the law returns true; each argument reads behind the call as it read before'; 0 by the template 'total and deterministic' (their statements: YthjpjekaiflibaaDoorTotals.lean).
  GIVEN WITH THE SEED: the statements are not yours to turn. If you find one false, say at which input.
  Laid BY PROGRAM, IN A SANDBOX (cutbox-rows.mjs): the forced cells as the released guide's own fill.sh prints them over the translation f8523fcad0ec9d69… (all of the seat's roots in one cut). By AI agents, Wed Nov 11 2026. No macro, syntax, notation, axiom, sorry.
-/
import Derived.Test.YthjpjekaiflibaaDoorChecked
import GoSem.Claim
import GoSem.ClaimJoined
import GoSem.ClaimMapViews
import Derived.JoinedTies
import Derived.KernelRfl
namespace Go.Proofs.YthjpjekaiflibaaDoor
/- THE CELL 'sum', in the pinned program and in every row, IS THE sha256 OF THE DUMP (.gsa) THAT YthjpjekaiflibaaDoorProg.lean LOADS. Nothing in Lean hashes anything: it is a label: what it is worth is what the hold of that sum in a sandbox is worth. -/
noncomputable def Tryd.pinned : Pinned := { name := "ythjpjekaiflibaadoor", sum := "f8523fcad0ec9d6973f2faecc95038144c8970bf571a6d53a28a4524bf90df7e", checked := Tryd.checked }
namespace Rows
def none {H : Type} : Left H := { results := [], args := [] }

/- WHAT THE LISTED PACKAGE-LEVEL VARIABLES READ AS WHEN THE CALL BEGINS. Each datum BY PROGRAM (the guide's laid-datum.mjs) off the statement by which the dump's own 'gosem.cut.vars' lays the variable. In a bare row this is a premise. The card (YthjpjekaiflibaaDoorCards.lean) ties it to the program's text. -/
def laid_countinghouse_sums_table {H : Type} : DataW H := .agg [.lit (.int .u32 0), .lit (.int .u32 498536548), .lit (.int .u32 997073096), .lit (.int .u32 651767980), .lit (.int .u32 1994146192), .lit (.int .u32 1802195444), .lit (.int .u32 1303535960), .lit (.int .u32 1342533948), .lit (.int .u32 3988292384), .lit (.int .u32 4027552580), .lit (.int .u32 3604390888), .lit (.int .u32 3412177804), .lit (.int .u32 2607071920), .lit (.int .u32 2262029012), .lit (.int .u32 2685067896), .lit (.int .u32 3183342108)]

/-- 'countinghouselaw20.StatesVoid': WHATEVER THE INPUT: true; the input reads as it did. -/
def statesVoidSpec : ChangeSpec := { name := "statesVoid", fn := fun _ => fun
  | [d1, d2] => { results := [.lit (.bool true)], args := [d1, d2] }
  | _ => none }
def statesVoidRow : OpenClaim := { program := "ythjpjekaiflibaadoor", sum := "f8523fcad0ec9d6973f2faecc95038144c8970bf571a6d53a28a4524bf90df7e", func := "countinghouse/countinghouselaw20.StatesVoid", spec := "statesVoid", unfollowed := true, recurses := true, named := ["countinghouse/sums.table"], apart := false, laid := [("countinghouse/sums.table", laid_countinghouse_sums_table)] }
def StatesVoidSaid : Prop := statesVoidRow.holds Tryd.pinned (OpenSpec.ofChange statesVoidSpec)

/-- ITS FALSE NEIGHBOUR: 'it returns false'. Refute it at one input. -/
def statesVoidWrong : ChangeSpec := { name := "statesVoid", fn := fun _ => fun
  | [d1, d2] => { results := [.lit (.bool false)], args := [d1, d2] }
  | _ => none }
def StatesVoidWrongFalsely : Prop := statesVoidRow.holds Tryd.pinned (OpenSpec.ofChange statesVoidWrong)

/-- 'countinghouselaw21.ShotsVoid': WHATEVER THE INPUT: true; the input reads as it did. -/
def shotsVoidSpec : ChangeSpec := { name := "shotsVoid", fn := fun _ => fun
  | [d] => { results := [.lit (.bool true)], args := [d] }
  | _ => none }
def shotsVoidRow : OpenClaim := { program := "ythjpjekaiflibaadoor", sum := "f8523fcad0ec9d6973f2faecc95038144c8970bf571a6d53a28a4524bf90df7e", func := "countinghouse/countinghouselaw21.ShotsVoid", spec := "shotsVoid", unfollowed := true, recurses := true, named := ["countinghouse/sums.table"], apart := false, laid := [("countinghouse/sums.table", laid_countinghouse_sums_table)] }
def ShotsVoidSaid : Prop := shotsVoidRow.holds Tryd.pinned (OpenSpec.ofChange shotsVoidSpec)

/-- ITS FALSE NEIGHBOUR: 'it returns false'. Refute it at one input. -/
def shotsVoidWrong : ChangeSpec := { name := "shotsVoid", fn := fun _ => fun
  | [d] => { results := [.lit (.bool false)], args := [d] }
  | _ => none }
def ShotsVoidWrongFalsely : Prop := shotsVoidRow.holds Tryd.pinned (OpenSpec.ofChange shotsVoidWrong)

/-- 'countinghouselaw19.LogsOpened': WHATEVER THE INPUT: true; the input reads as it did. -/
def logsOpenedSpec : ChangeSpec := { name := "logsOpened", fn := fun _ => fun
  | [d1, d2, d3] => { results := [.lit (.bool true)], args := [d1, d2, d3] }
  | _ => none }
def logsOpenedRow : OpenClaim := { program := "ythjpjekaiflibaadoor", sum := "f8523fcad0ec9d6973f2faecc95038144c8970bf571a6d53a28a4524bf90df7e", func := "countinghouse/countinghouselaw19.LogsOpened", spec := "logsOpened", unfollowed := true, recurses := true, named := ["countinghouse/sums.table"], apart := false, laid := [("countinghouse/sums.table", laid_countinghouse_sums_table)] }
def LogsOpenedSaid : Prop := logsOpenedRow.holds Tryd.pinned (OpenSpec.ofChange logsOpenedSpec)

/-- ITS FALSE NEIGHBOUR: 'it returns false'. Refute it at one input. -/
def logsOpenedWrong : ChangeSpec := { name := "logsOpened", fn := fun _ => fun
  | [d1, d2, d3] => { results := [.lit (.bool false)], args := [d1, d2, d3] }
  | _ => none }
def LogsOpenedWrongFalsely : Prop := logsOpenedRow.holds Tryd.pinned (OpenSpec.ofChange logsOpenedWrong)

/-- 'countinghouselaw19.LogsVoid': WHATEVER THE INPUT: true; the input reads as it did. -/
def logsVoidSpec : ChangeSpec := { name := "logsVoid", fn := fun _ => fun
  | [d] => { results := [.lit (.bool true)], args := [d] }
  | _ => none }
def logsVoidRow : OpenClaim := { program := "ythjpjekaiflibaadoor", sum := "f8523fcad0ec9d6973f2faecc95038144c8970bf571a6d53a28a4524bf90df7e", func := "countinghouse/countinghouselaw19.LogsVoid", spec := "logsVoid", unfollowed := true, recurses := true, named := ["countinghouse/sums.table"], apart := false, laid := [("countinghouse/sums.table", laid_countinghouse_sums_table)] }
def LogsVoidSaid : Prop := logsVoidRow.holds Tryd.pinned (OpenSpec.ofChange logsVoidSpec)

/-- ITS FALSE NEIGHBOUR: 'it returns false'. Refute it at one input. -/
def logsVoidWrong : ChangeSpec := { name := "logsVoid", fn := fun _ => fun
  | [d] => { results := [.lit (.bool false)], args := [d] }
  | _ => none }
def LogsVoidWrongFalsely : Prop := logsVoidRow.holds Tryd.pinned (OpenSpec.ofChange logsVoidWrong)

/-- 'countinghouselaw20.StatesOne': WHATEVER THE INPUT: true; the input reads as it did. -/
def statesOneSpec : ChangeSpec := { name := "statesOne", fn := fun _ => fun
  | [d] => { results := [.lit (.bool true)], args := [d] }
  | _ => none }
def statesOneRow : OpenClaim := { program := "ythjpjekaiflibaadoor", sum := "f8523fcad0ec9d6973f2faecc95038144c8970bf571a6d53a28a4524bf90df7e", func := "countinghouse/countinghouselaw20.StatesOne", spec := "statesOne", unfollowed := true, recurses := true, named := ["countinghouse/sums.table"], apart := false, laid := [("countinghouse/sums.table", laid_countinghouse_sums_table)] }
def StatesOneSaid : Prop := statesOneRow.holds Tryd.pinned (OpenSpec.ofChange statesOneSpec)

/-- ITS FALSE NEIGHBOUR: 'it returns false'. Refute it at one input. -/
def statesOneWrong : ChangeSpec := { name := "statesOne", fn := fun _ => fun
  | [d] => { results := [.lit (.bool false)], args := [d] }
  | _ => none }
def StatesOneWrongFalsely : Prop := statesOneRow.holds Tryd.pinned (OpenSpec.ofChange statesOneWrong)

/-- 'countinghouselaw20.StatesPlay': WHATEVER THE INPUT: true; the input reads as it did. -/
def statesPlaySpec : ChangeSpec := { name := "statesPlay", fn := fun _ => fun
  | [d] => { results := [.lit (.bool true)], args := [d] }
  | _ => none }
def statesPlayRow : OpenClaim := { program := "ythjpjekaiflibaadoor", sum := "f8523fcad0ec9d6973f2faecc95038144c8970bf571a6d53a28a4524bf90df7e", func := "countinghouse/countinghouselaw20.StatesPlay", spec := "statesPlay", unfollowed := true, recurses := true, named := ["countinghouse/sums.table"], apart := false, laid := [("countinghouse/sums.table", laid_countinghouse_sums_table)] }
def StatesPlaySaid : Prop := statesPlayRow.holds Tryd.pinned (OpenSpec.ofChange statesPlaySpec)

/-- ITS FALSE NEIGHBOUR: 'it returns false'. Refute it at one input. -/
def statesPlayWrong : ChangeSpec := { name := "statesPlay", fn := fun _ => fun
  | [d] => { results := [.lit (.bool false)], args := [d] }
  | _ => none }
def StatesPlayWrongFalsely : Prop := statesPlayRow.holds Tryd.pinned (OpenSpec.ofChange statesPlayWrong)

/-- 'countinghouselaw21.ShotsSure': WHATEVER THE INPUT: true; the input reads as it did. -/
def shotsSureSpec : ChangeSpec := { name := "shotsSure", fn := fun _ => fun
  | [d1, d2, d3] => { results := [.lit (.bool true)], args := [d1, d2, d3] }
  | _ => none }
def shotsSureRow : OpenClaim := { program := "ythjpjekaiflibaadoor", sum := "f8523fcad0ec9d6973f2faecc95038144c8970bf571a6d53a28a4524bf90df7e", func := "countinghouse/countinghouselaw21.ShotsSure", spec := "shotsSure", unfollowed := true, recurses := true, named := ["countinghouse/sums.table"], apart := false, laid := [("countinghouse/sums.table", laid_countinghouse_sums_table)] }
def ShotsSureSaid : Prop := shotsSureRow.holds Tryd.pinned (OpenSpec.ofChange shotsSureSpec)

/-- ITS FALSE NEIGHBOUR: 'it returns false'. Refute it at one input. -/
def shotsSureWrong : ChangeSpec := { name := "shotsSure", fn := fun _ => fun
  | [d1, d2, d3] => { results := [.lit (.bool false)], args := [d1, d2, d3] }
  | _ => none }
def ShotsSureWrongFalsely : Prop := shotsSureRow.holds Tryd.pinned (OpenSpec.ofChange shotsSureWrong)

/- THE SECOND FORM. 'bulk': how many values and letters a reading holds, each counted each time it is reached (what is shared counts as often as it is met; a slice's spare places count too). A statement '..UptoSaid' is the law's where the arguments, and the package variables that the reading takes, are together of bulk at most 1048576: NARROWER than '..Said'. Prove '..Said' where nothing that the law and all that it calls make is longer than what came in: it says more and counts as full. Else prove '..UptoSaid'. A law counts once. -/
mutual
def uptoBulk {H : Type} : DataW H → Nat
  | .lit (.string bytes) => bytes.length + 1
  | .lit _ => 1
  | .nil => 1
  | .ptr d => uptoBulk d + 1
  | .slice elems spare => uptoBulkAll elems + uptoBulkAll spare + 1
  | .agg parts => uptoBulkAll parts + 1
  | .iface _ d => uptoBulk d + 1
  | .map entries => uptoBulkEntries entries + 1
  | .held _ => 1
def uptoBulkAll {H : Type} : List (DataW H) → Nat
  | [] => 0
  | d :: r => uptoBulk d + uptoBulkAll r
def uptoBulkEntries {H : Type} : List (Lit × DataW H) → Nat
  | [] => 0
  | x :: r => uptoBulkEntry x + uptoBulkEntries r
def uptoBulkEntry {H : Type} : Lit × DataW H → Nat
  | (.string bytes, d) => bytes.length + uptoBulk d + 1
  | (_, d) => uptoBulk d + 1
 end
def uptoSmall : (H : Type) → List (DataW H) → Bool := fun _ ds => decide (uptoBulkAll ds ≤ 1048576)
def OpenSpec.upto (s : _root_.Go.ChangeSpec) : _root_.Go.OpenSpec := { _root_.Go.OpenSpec.ofChange s with cond := some uptoSmall }

/-- 'countinghouselaw20.StatesVoid', WHERE WHAT IT READS IS OF BULK AT MOST 1048576: true; the input reads as it did. -/
def statesVoidUptoRow : OpenClaim := { program := "ythjpjekaiflibaadoor", sum := "f8523fcad0ec9d6973f2faecc95038144c8970bf571a6d53a28a4524bf90df7e", func := "countinghouse/countinghouselaw20.StatesVoid", spec := "statesVoid", unfollowed := true, recurses := true, named := ["countinghouse/sums.table"], apart := false, laid := [("countinghouse/sums.table", laid_countinghouse_sums_table)], narrowed := true }
def StatesVoidUptoSaid : Prop := statesVoidUptoRow.holds Tryd.pinned (OpenSpec.upto statesVoidSpec)

/-- 'countinghouselaw21.ShotsVoid', WHERE WHAT IT READS IS OF BULK AT MOST 1048576: true; the input reads as it did. -/
def shotsVoidUptoRow : OpenClaim := { program := "ythjpjekaiflibaadoor", sum := "f8523fcad0ec9d6973f2faecc95038144c8970bf571a6d53a28a4524bf90df7e", func := "countinghouse/countinghouselaw21.ShotsVoid", spec := "shotsVoid", unfollowed := true, recurses := true, named := ["countinghouse/sums.table"], apart := false, laid := [("countinghouse/sums.table", laid_countinghouse_sums_table)], narrowed := true }
def ShotsVoidUptoSaid : Prop := shotsVoidUptoRow.holds Tryd.pinned (OpenSpec.upto shotsVoidSpec)

/-- 'countinghouselaw19.LogsOpened', WHERE WHAT IT READS IS OF BULK AT MOST 1048576: true; the input reads as it did. -/
def logsOpenedUptoRow : OpenClaim := { program := "ythjpjekaiflibaadoor", sum := "f8523fcad0ec9d6973f2faecc95038144c8970bf571a6d53a28a4524bf90df7e", func := "countinghouse/countinghouselaw19.LogsOpened", spec := "logsOpened", unfollowed := true, recurses := true, named := ["countinghouse/sums.table"], apart := false, laid := [("countinghouse/sums.table", laid_countinghouse_sums_table)], narrowed := true }
def LogsOpenedUptoSaid : Prop := logsOpenedUptoRow.holds Tryd.pinned (OpenSpec.upto logsOpenedSpec)

/-- 'countinghouselaw19.LogsVoid', WHERE WHAT IT READS IS OF BULK AT MOST 1048576: true; the input reads as it did. -/
def logsVoidUptoRow : OpenClaim := { program := "ythjpjekaiflibaadoor", sum := "f8523fcad0ec9d6973f2faecc95038144c8970bf571a6d53a28a4524bf90df7e", func := "countinghouse/countinghouselaw19.LogsVoid", spec := "logsVoid", unfollowed := true, recurses := true, named := ["countinghouse/sums.table"], apart := false, laid := [("countinghouse/sums.table", laid_countinghouse_sums_table)], narrowed := true }
def LogsVoidUptoSaid : Prop := logsVoidUptoRow.holds Tryd.pinned (OpenSpec.upto logsVoidSpec)

/-- 'countinghouselaw20.StatesOne', WHERE WHAT IT READS IS OF BULK AT MOST 1048576: true; the input reads as it did. -/
def statesOneUptoRow : OpenClaim := { program := "ythjpjekaiflibaadoor", sum := "f8523fcad0ec9d6973f2faecc95038144c8970bf571a6d53a28a4524bf90df7e", func := "countinghouse/countinghouselaw20.StatesOne", spec := "statesOne", unfollowed := true, recurses := true, named := ["countinghouse/sums.table"], apart := false, laid := [("countinghouse/sums.table", laid_countinghouse_sums_table)], narrowed := true }
def StatesOneUptoSaid : Prop := statesOneUptoRow.holds Tryd.pinned (OpenSpec.upto statesOneSpec)

/-- 'countinghouselaw20.StatesPlay', WHERE WHAT IT READS IS OF BULK AT MOST 1048576: true; the input reads as it did. -/
def statesPlayUptoRow : OpenClaim := { program := "ythjpjekaiflibaadoor", sum := "f8523fcad0ec9d6973f2faecc95038144c8970bf571a6d53a28a4524bf90df7e", func := "countinghouse/countinghouselaw20.StatesPlay", spec := "statesPlay", unfollowed := true, recurses := true, named := ["countinghouse/sums.table"], apart := false, laid := [("countinghouse/sums.table", laid_countinghouse_sums_table)], narrowed := true }
def StatesPlayUptoSaid : Prop := statesPlayUptoRow.holds Tryd.pinned (OpenSpec.upto statesPlaySpec)

/-- 'countinghouselaw21.ShotsSure', WHERE WHAT IT READS IS OF BULK AT MOST 1048576: true; the input reads as it did. -/
def shotsSureUptoRow : OpenClaim := { program := "ythjpjekaiflibaadoor", sum := "f8523fcad0ec9d6973f2faecc95038144c8970bf571a6d53a28a4524bf90df7e", func := "countinghouse/countinghouselaw21.ShotsSure", spec := "shotsSure", unfollowed := true, recurses := true, named := ["countinghouse/sums.table"], apart := false, laid := [("countinghouse/sums.table", laid_countinghouse_sums_table)], narrowed := true }
def ShotsSureUptoSaid : Prop := shotsSureUptoRow.holds Tryd.pinned (OpenSpec.upto shotsSureSpec)

end Rows
end Go.Proofs.YthjpjekaiflibaaDoor
