/-
  No cell of these rows narrows 'for every input' (looked for: loops, veiled, ifaces, maps, wideKeys, modest, calm, conditions, laid).
  DERIVED. THE GIVEN ROWS OF THIS SEAT. 5 by the template 'for every input the law returns true; each argument reads behind the call as it read before'; 0 by the template 'total and deterministic' (their statements: YtcpaphcodhlggaaTotals.lean).
  GIVEN WITH THE SEED: the statements are not yours to turn. If you find one false, say at which input.
  Laid BY PROGRAM, IN A SANDBOX (cutbox-rows.mjs): the forced cells as the released guide's own fill.sh prints them over the translation 9d8abc0a97b7e1e1… (all of the seat's roots in one cut). By AI agents, Wed Nov 11 2026. No macro, syntax, notation, axiom, sorry.
-/
import Derived.Test.YtcpaphcodhlggaaChecked
import GoSem.Claim
import GoSem.ClaimJoined
import GoSem.ClaimMapViews
import Derived.JoinedTies
import Derived.KernelRfl
namespace Go.Proofs.Ytcpaphcodhlggaa
/- THE CELL 'sum', in the pinned program and in every row, IS THE sha256 OF THE DUMP (.gsa) THAT YtcpaphcodhlggaaProg.lean LOADS. Nothing in Lean hashes anything: it is a label: what it is worth is what the hold of that sum in a sandbox is worth. -/
noncomputable def Try.pinned : Pinned := { name := "ytcpaphcodhlggaa", sum := "9d8abc0a97b7e1e1353d20485382426433da045ca92df98115c5b69b8453c267", checked := Try.checked }
namespace Rows
def none {H : Type} : Left H := { results := [], args := [] }

/-- 'countinghouselaw22.VotesPlay': WHATEVER THE INPUT: true; the input reads as it did. -/
def votesPlaySpec : ChangeSpec := { name := "votesPlay", fn := fun _ => fun
  | [d1, d2] => { results := [.lit (.bool true)], args := [d1, d2] }
  | _ => none }
def votesPlayRow : OpenClaim := { program := "ytcpaphcodhlggaa", sum := "9d8abc0a97b7e1e1353d20485382426433da045ca92df98115c5b69b8453c267", func := "countinghouse/countinghouselaw22.VotesPlay", spec := "votesPlay", unfollowed := true, recurses := true, apart := false }
def VotesPlaySaid : Prop := votesPlayRow.holds Try.pinned (OpenSpec.ofChange votesPlaySpec)

/-- ITS FALSE NEIGHBOUR: 'it returns false'. Refute it at one input. -/
def votesPlayWrong : ChangeSpec := { name := "votesPlay", fn := fun _ => fun
  | [d1, d2] => { results := [.lit (.bool false)], args := [d1, d2] }
  | _ => none }
def VotesPlayWrongFalsely : Prop := votesPlayRow.holds Try.pinned (OpenSpec.ofChange votesPlayWrong)

/-- 'countinghouselaw22.VotesReached': WHATEVER THE INPUT: true; the input reads as it did. -/
def votesReachedSpec : ChangeSpec := { name := "votesReached", fn := fun _ => fun
  | [d] => { results := [.lit (.bool true)], args := [d] }
  | _ => none }
def votesReachedRow : OpenClaim := { program := "ytcpaphcodhlggaa", sum := "9d8abc0a97b7e1e1353d20485382426433da045ca92df98115c5b69b8453c267", func := "countinghouse/countinghouselaw22.VotesReached", spec := "votesReached", unfollowed := true, recurses := true, apart := false }
def VotesReachedSaid : Prop := votesReachedRow.holds Try.pinned (OpenSpec.ofChange votesReachedSpec)

/-- ITS FALSE NEIGHBOUR: 'it returns false'. Refute it at one input. -/
def votesReachedWrong : ChangeSpec := { name := "votesReached", fn := fun _ => fun
  | [d] => { results := [.lit (.bool false)], args := [d] }
  | _ => none }
def VotesReachedWrongFalsely : Prop := votesReachedRow.holds Try.pinned (OpenSpec.ofChange votesReachedWrong)

/-- 'countinghouselaw22.VotesVoid': WHATEVER THE INPUT: true; the input reads as it did. -/
def votesVoidSpec : ChangeSpec := { name := "votesVoid", fn := fun _ => fun
  | [d] => { results := [.lit (.bool true)], args := [d] }
  | _ => none }
def votesVoidRow : OpenClaim := { program := "ytcpaphcodhlggaa", sum := "9d8abc0a97b7e1e1353d20485382426433da045ca92df98115c5b69b8453c267", func := "countinghouse/countinghouselaw22.VotesVoid", spec := "votesVoid", unfollowed := true, recurses := true, apart := false }
def VotesVoidSaid : Prop := votesVoidRow.holds Try.pinned (OpenSpec.ofChange votesVoidSpec)

/-- ITS FALSE NEIGHBOUR: 'it returns false'. Refute it at one input. -/
def votesVoidWrong : ChangeSpec := { name := "votesVoid", fn := fun _ => fun
  | [d] => { results := [.lit (.bool false)], args := [d] }
  | _ => none }
def VotesVoidWrongFalsely : Prop := votesVoidRow.holds Try.pinned (OpenSpec.ofChange votesVoidWrong)

/-- 'countinghouselaw22.VotesMeet': WHATEVER THE INPUT: true; the input reads as it did. -/
def votesMeetSpec : ChangeSpec := { name := "votesMeet", fn := fun _ => fun
  | [d1, d2, d3] => { results := [.lit (.bool true)], args := [d1, d2, d3] }
  | _ => none }
def votesMeetRow : OpenClaim := { program := "ytcpaphcodhlggaa", sum := "9d8abc0a97b7e1e1353d20485382426433da045ca92df98115c5b69b8453c267", func := "countinghouse/countinghouselaw22.VotesMeet", spec := "votesMeet", unfollowed := true, recurses := true, apart := false }
def VotesMeetSaid : Prop := votesMeetRow.holds Try.pinned (OpenSpec.ofChange votesMeetSpec)

/-- ITS FALSE NEIGHBOUR: 'it returns false'. Refute it at one input. -/
def votesMeetWrong : ChangeSpec := { name := "votesMeet", fn := fun _ => fun
  | [d1, d2, d3] => { results := [.lit (.bool false)], args := [d1, d2, d3] }
  | _ => none }
def VotesMeetWrongFalsely : Prop := votesMeetRow.holds Try.pinned (OpenSpec.ofChange votesMeetWrong)

/-- 'countinghouselaw22.VotesAll': WHATEVER THE INPUT: true; the input reads as it did. -/
def votesAllSpec : ChangeSpec := { name := "votesAll", fn := fun _ => fun
  | [d] => { results := [.lit (.bool true)], args := [d] }
  | _ => none }
def votesAllRow : OpenClaim := { program := "ytcpaphcodhlggaa", sum := "9d8abc0a97b7e1e1353d20485382426433da045ca92df98115c5b69b8453c267", func := "countinghouse/countinghouselaw22.VotesAll", spec := "votesAll", unfollowed := true, recurses := true, apart := false }
def VotesAllSaid : Prop := votesAllRow.holds Try.pinned (OpenSpec.ofChange votesAllSpec)

/-- ITS FALSE NEIGHBOUR: 'it returns false'. Refute it at one input. -/
def votesAllWrong : ChangeSpec := { name := "votesAll", fn := fun _ => fun
  | [d] => { results := [.lit (.bool false)], args := [d] }
  | _ => none }
def VotesAllWrongFalsely : Prop := votesAllRow.holds Try.pinned (OpenSpec.ofChange votesAllWrong)

/- THE SECOND FORM. 'bulk': how many values and letters a reading holds, each counted each time it is reached (what is shared counts as often as it is met; a slice's spare places count too). A statement '..UptoSaid' is the law's where the arguments, and the package variables that the reading takes, are together of bulk at most 1048576: NARROWER than '..Said'. Prove '..Said' where nothing that the law and all that it calls make is longer than what came in: it says more and counts as full. Else prove '..UptoSaid'. A law counts once. -/
mutual
def uptoBulk {H : Type} : DataW H → Nat
  | .lit (.string bytes) => bytes.length + 1
  | .lit _ => 1
  | .nil => 1
  | .ptr d => uptoBulk d + 1
  | .slice elems spare => uptoBulkAll elems + uptoBulkAll spare + 1
  | .agg parts => uptoBulkAll parts + 1
  | .iface _ d => uptoBulk d + 1
  | .map entries => uptoBulkEntries entries + 1
  | .held _ => 1
def uptoBulkAll {H : Type} : List (DataW H) → Nat
  | [] => 0
  | d :: r => uptoBulk d + uptoBulkAll r
def uptoBulkEntries {H : Type} : List (Lit × DataW H) → Nat
  | [] => 0
  | x :: r => uptoBulkEntry x + uptoBulkEntries r
def uptoBulkEntry {H : Type} : Lit × DataW H → Nat
  | (.string bytes, d) => bytes.length + uptoBulk d + 1
  | (_, d) => uptoBulk d + 1
 end
def uptoSmall : (H : Type) → List (DataW H) → Bool := fun _ ds => decide (uptoBulkAll ds ≤ 1048576)
def OpenSpec.upto (s : _root_.Go.ChangeSpec) : _root_.Go.OpenSpec := { _root_.Go.OpenSpec.ofChange s with cond := some uptoSmall }

/-- 'countinghouselaw22.VotesPlay', WHERE WHAT IT READS IS OF BULK AT MOST 1048576: true; the input reads as it did. -/
def votesPlayUptoRow : OpenClaim := { program := "ytcpaphcodhlggaa", sum := "9d8abc0a97b7e1e1353d20485382426433da045ca92df98115c5b69b8453c267", func := "countinghouse/countinghouselaw22.VotesPlay", spec := "votesPlay", unfollowed := true, recurses := true, apart := false, narrowed := true }
def VotesPlayUptoSaid : Prop := votesPlayUptoRow.holds Try.pinned (OpenSpec.upto votesPlaySpec)

/-- 'countinghouselaw22.VotesReached', WHERE WHAT IT READS IS OF BULK AT MOST 1048576: true; the input reads as it did. -/
def votesReachedUptoRow : OpenClaim := { program := "ytcpaphcodhlggaa", sum := "9d8abc0a97b7e1e1353d20485382426433da045ca92df98115c5b69b8453c267", func := "countinghouse/countinghouselaw22.VotesReached", spec := "votesReached", unfollowed := true, recurses := true, apart := false, narrowed := true }
def VotesReachedUptoSaid : Prop := votesReachedUptoRow.holds Try.pinned (OpenSpec.upto votesReachedSpec)

/-- 'countinghouselaw22.VotesVoid', WHERE WHAT IT READS IS OF BULK AT MOST 1048576: true; the input reads as it did. -/
def votesVoidUptoRow : OpenClaim := { program := "ytcpaphcodhlggaa", sum := "9d8abc0a97b7e1e1353d20485382426433da045ca92df98115c5b69b8453c267", func := "countinghouse/countinghouselaw22.VotesVoid", spec := "votesVoid", unfollowed := true, recurses := true, apart := false, narrowed := true }
def VotesVoidUptoSaid : Prop := votesVoidUptoRow.holds Try.pinned (OpenSpec.upto votesVoidSpec)

/-- 'countinghouselaw22.VotesMeet', WHERE WHAT IT READS IS OF BULK AT MOST 1048576: true; the input reads as it did. -/
def votesMeetUptoRow : OpenClaim := { program := "ytcpaphcodhlggaa", sum := "9d8abc0a97b7e1e1353d20485382426433da045ca92df98115c5b69b8453c267", func := "countinghouse/countinghouselaw22.VotesMeet", spec := "votesMeet", unfollowed := true, recurses := true, apart := false, narrowed := true }
def VotesMeetUptoSaid : Prop := votesMeetUptoRow.holds Try.pinned (OpenSpec.upto votesMeetSpec)

/-- 'countinghouselaw22.VotesAll', WHERE WHAT IT READS IS OF BULK AT MOST 1048576: true; the input reads as it did. -/
def votesAllUptoRow : OpenClaim := { program := "ytcpaphcodhlggaa", sum := "9d8abc0a97b7e1e1353d20485382426433da045ca92df98115c5b69b8453c267", func := "countinghouse/countinghouselaw22.VotesAll", spec := "votesAll", unfollowed := true, recurses := true, apart := false, narrowed := true }
def VotesAllUptoSaid : Prop := votesAllUptoRow.holds Try.pinned (OpenSpec.upto votesAllSpec)

end Rows
end Go.Proofs.Ytcpaphcodhlggaa
