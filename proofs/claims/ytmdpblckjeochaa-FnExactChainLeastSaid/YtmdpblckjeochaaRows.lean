/-
  No cell of these rows narrows 'for every input' (looked for: loops, veiled, ifaces, maps, wideKeys, modest, calm, conditions, laid).
  DERIVED. THE GIVEN ROWS OF THIS SEAT. 13 by the template 'for every input the law returns true; each argument reads behind the call as it read before'; 0 by the template 'total and deterministic' (their statements: YtmdpblckjeochaaTotals.lean).
  GIVEN WITH THE SEED: the statements are not yours to turn. If you find one false, say at which input.
  Laid BY PROGRAM, IN A SANDBOX (cutbox-rows.mjs): the forced cells as the released guide's own fill.sh prints them over the translation 0a2f7cf28c327e9f… (all of the seat's roots in one cut). By AI agents, Wed Nov 11 2026. No macro, syntax, notation, axiom, sorry.
-/
import Derived.Test.YtmdpblckjeochaaChecked
import GoSem.Claim
import GoSem.ClaimJoined
import GoSem.ClaimMapViews
import Derived.JoinedTies
import Derived.KernelRfl
namespace Go.Proofs.Ytmdpblckjeochaa
/- THE CELL 'sum', in the pinned program and in every row, IS THE sha256 OF THE DUMP (.gsa) THAT YtmdpblckjeochaaProg.lean LOADS. Nothing in Lean hashes anything: it is a label: what it is worth is what the hold of that sum in a sandbox is worth. -/
noncomputable def Try.pinned : Pinned := { name := "ytmdpblckjeochaa", sum := "0a2f7cf28c327e9fb6a2ffeb9df3c530ca0e16dbf3cee08a953c588c9f021fc4", checked := Try.checked }
namespace Rows
def none {H : Type} : Left H := { results := [], args := [] }

/-- 'laws.FnExactIsCode': WHATEVER THE INPUT: true; the input reads as it did. -/
def fnExactIsCodeSpec : ChangeSpec := { name := "fnExactIsCode", fn := fun _ => fun
  | [d1, d2] => { results := [.lit (.bool true)], args := [d1, d2] }
  | _ => none }
def fnExactIsCodeRow : OpenClaim := { program := "ytmdpblckjeochaa", sum := "0a2f7cf28c327e9fb6a2ffeb9df3c530ca0e16dbf3cee08a953c588c9f021fc4", func := "loop.example/g01141/laws.FnExactIsCode", spec := "fnExactIsCode", apart := false }
def FnExactIsCodeSaid : Prop := fnExactIsCodeRow.holds Try.pinned (OpenSpec.ofChange fnExactIsCodeSpec)

/-- ITS FALSE NEIGHBOUR: 'it returns false'. Refute it at one input. -/
def fnExactIsCodeWrong : ChangeSpec := { name := "fnExactIsCode", fn := fun _ => fun
  | [d1, d2] => { results := [.lit (.bool false)], args := [d1, d2] }
  | _ => none }
def FnExactIsCodeWrongFalsely : Prop := fnExactIsCodeRow.holds Try.pinned (OpenSpec.ofChange fnExactIsCodeWrong)

/-- 'laws.FnExactBitCode': WHATEVER THE INPUT: true; the input reads as it did. -/
def fnExactBitCodeSpec : ChangeSpec := { name := "fnExactBitCode", fn := fun _ => fun
  | [d1, d2] => { results := [.lit (.bool true)], args := [d1, d2] }
  | _ => none }
def fnExactBitCodeRow : OpenClaim := { program := "ytmdpblckjeochaa", sum := "0a2f7cf28c327e9fb6a2ffeb9df3c530ca0e16dbf3cee08a953c588c9f021fc4", func := "loop.example/g01141/laws.FnExactBitCode", spec := "fnExactBitCode", unfollowed := true, recurses := true, apart := false }
def FnExactBitCodeSaid : Prop := fnExactBitCodeRow.holds Try.pinned (OpenSpec.ofChange fnExactBitCodeSpec)

/-- ITS FALSE NEIGHBOUR: 'it returns false'. Refute it at one input. -/
def fnExactBitCodeWrong : ChangeSpec := { name := "fnExactBitCode", fn := fun _ => fun
  | [d1, d2] => { results := [.lit (.bool false)], args := [d1, d2] }
  | _ => none }
def FnExactBitCodeWrongFalsely : Prop := fnExactBitCodeRow.holds Try.pinned (OpenSpec.ofChange fnExactBitCodeWrong)

/-- 'laws.FnExactParityCode': WHATEVER THE INPUT: true; the input reads as it did. -/
def fnExactParityCodeSpec : ChangeSpec := { name := "fnExactParityCode", fn := fun _ => fun
  | [d] => { results := [.lit (.bool true)], args := [d] }
  | _ => none }
def fnExactParityCodeRow : OpenClaim := { program := "ytmdpblckjeochaa", sum := "0a2f7cf28c327e9fb6a2ffeb9df3c530ca0e16dbf3cee08a953c588c9f021fc4", func := "loop.example/g01141/laws.FnExactParityCode", spec := "fnExactParityCode", unfollowed := true, recurses := true, apart := false }
def FnExactParityCodeSaid : Prop := fnExactParityCodeRow.holds Try.pinned (OpenSpec.ofChange fnExactParityCodeSpec)

/-- ITS FALSE NEIGHBOUR: 'it returns false'. Refute it at one input. -/
def fnExactParityCodeWrong : ChangeSpec := { name := "fnExactParityCode", fn := fun _ => fun
  | [d] => { results := [.lit (.bool false)], args := [d] }
  | _ => none }
def FnExactParityCodeWrongFalsely : Prop := fnExactParityCodeRow.holds Try.pinned (OpenSpec.ofChange fnExactParityCodeWrong)

/-- 'laws.FnExactMajorityCode': WHATEVER THE INPUT: true; the input reads as it did. -/
def fnExactMajorityCodeSpec : ChangeSpec := { name := "fnExactMajorityCode", fn := fun _ => fun
  | [d] => { results := [.lit (.bool true)], args := [d] }
  | _ => none }
def fnExactMajorityCodeRow : OpenClaim := { program := "ytmdpblckjeochaa", sum := "0a2f7cf28c327e9fb6a2ffeb9df3c530ca0e16dbf3cee08a953c588c9f021fc4", func := "loop.example/g01141/laws.FnExactMajorityCode", spec := "fnExactMajorityCode", unfollowed := true, recurses := true, apart := false }
def FnExactMajorityCodeSaid : Prop := fnExactMajorityCodeRow.holds Try.pinned (OpenSpec.ofChange fnExactMajorityCodeSpec)

/-- ITS FALSE NEIGHBOUR: 'it returns false'. Refute it at one input. -/
def fnExactMajorityCodeWrong : ChangeSpec := { name := "fnExactMajorityCode", fn := fun _ => fun
  | [d] => { results := [.lit (.bool false)], args := [d] }
  | _ => none }
def FnExactMajorityCodeWrongFalsely : Prop := fnExactMajorityCodeRow.holds Try.pinned (OpenSpec.ofChange fnExactMajorityCodeWrong)

/-- 'laws.FnExactCodeTotal': WHATEVER THE INPUT: true; the input reads as it did. -/
def fnExactCodeTotalSpec : ChangeSpec := { name := "fnExactCodeTotal", fn := fun _ => fun
  | [d1, d2] => { results := [.lit (.bool true)], args := [d1, d2] }
  | _ => none }
def fnExactCodeTotalRow : OpenClaim := { program := "ytmdpblckjeochaa", sum := "0a2f7cf28c327e9fb6a2ffeb9df3c530ca0e16dbf3cee08a953c588c9f021fc4", func := "loop.example/g01141/laws.FnExactCodeTotal", spec := "fnExactCodeTotal", apart := false }
def FnExactCodeTotalSaid : Prop := fnExactCodeTotalRow.holds Try.pinned (OpenSpec.ofChange fnExactCodeTotalSpec)

/-- ITS FALSE NEIGHBOUR: 'it returns false'. Refute it at one input. -/
def fnExactCodeTotalWrong : ChangeSpec := { name := "fnExactCodeTotal", fn := fun _ => fun
  | [d1, d2] => { results := [.lit (.bool false)], args := [d1, d2] }
  | _ => none }
def FnExactCodeTotalWrongFalsely : Prop := fnExactCodeTotalRow.holds Try.pinned (OpenSpec.ofChange fnExactCodeTotalWrong)

/-- 'laws.FnExactCodeScores': WHATEVER THE INPUT: true; the input reads as it did. -/
def fnExactCodeScoresSpec : ChangeSpec := { name := "fnExactCodeScores", fn := fun _ => fun
  | [d1, d2] => { results := [.lit (.bool true)], args := [d1, d2] }
  | _ => none }
def fnExactCodeScoresRow : OpenClaim := { program := "ytmdpblckjeochaa", sum := "0a2f7cf28c327e9fb6a2ffeb9df3c530ca0e16dbf3cee08a953c588c9f021fc4", func := "loop.example/g01141/laws.FnExactCodeScores", spec := "fnExactCodeScores", apart := false }
def FnExactCodeScoresSaid : Prop := fnExactCodeScoresRow.holds Try.pinned (OpenSpec.ofChange fnExactCodeScoresSpec)

/-- ITS FALSE NEIGHBOUR: 'it returns false'. Refute it at one input. -/
def fnExactCodeScoresWrong : ChangeSpec := { name := "fnExactCodeScores", fn := fun _ => fun
  | [d1, d2] => { results := [.lit (.bool false)], args := [d1, d2] }
  | _ => none }
def FnExactCodeScoresWrongFalsely : Prop := fnExactCodeScoresRow.holds Try.pinned (OpenSpec.ofChange fnExactCodeScoresWrong)

/-- 'laws.FnExactCodeGuesses': WHATEVER THE INPUT: true; the input reads as it did. -/
def fnExactCodeGuessesSpec : ChangeSpec := { name := "fnExactCodeGuesses", fn := fun _ => fun
  | [d1, d2] => { results := [.lit (.bool true)], args := [d1, d2] }
  | _ => none }
def fnExactCodeGuessesRow : OpenClaim := { program := "ytmdpblckjeochaa", sum := "0a2f7cf28c327e9fb6a2ffeb9df3c530ca0e16dbf3cee08a953c588c9f021fc4", func := "loop.example/g01141/laws.FnExactCodeGuesses", spec := "fnExactCodeGuesses", apart := false }
def FnExactCodeGuessesSaid : Prop := fnExactCodeGuessesRow.holds Try.pinned (OpenSpec.ofChange fnExactCodeGuessesSpec)

/-- ITS FALSE NEIGHBOUR: 'it returns false'. Refute it at one input. -/
def fnExactCodeGuessesWrong : ChangeSpec := { name := "fnExactCodeGuesses", fn := fun _ => fun
  | [d1, d2] => { results := [.lit (.bool false)], args := [d1, d2] }
  | _ => none }
def FnExactCodeGuessesWrongFalsely : Prop := fnExactCodeGuessesRow.holds Try.pinned (OpenSpec.ofChange fnExactCodeGuessesWrong)

/-- 'laws.FnExactBestCode': WHATEVER THE INPUT: true; the input reads as it did. -/
def fnExactBestCodeSpec : ChangeSpec := { name := "fnExactBestCode", fn := fun _ => fun
  | [d] => { results := [.lit (.bool true)], args := [d] }
  | _ => none }
def fnExactBestCodeRow : OpenClaim := { program := "ytmdpblckjeochaa", sum := "0a2f7cf28c327e9fb6a2ffeb9df3c530ca0e16dbf3cee08a953c588c9f021fc4", func := "loop.example/g01141/laws.FnExactBestCode", spec := "fnExactBestCode", unfollowed := true, recurses := true, apart := false }
def FnExactBestCodeSaid : Prop := fnExactBestCodeRow.holds Try.pinned (OpenSpec.ofChange fnExactBestCodeSpec)

/-- ITS FALSE NEIGHBOUR: 'it returns false'. Refute it at one input. -/
def fnExactBestCodeWrong : ChangeSpec := { name := "fnExactBestCode", fn := fun _ => fun
  | [d] => { results := [.lit (.bool false)], args := [d] }
  | _ => none }
def FnExactBestCodeWrongFalsely : Prop := fnExactBestCodeRow.holds Try.pinned (OpenSpec.ofChange fnExactBestCodeWrong)

/-- 'laws.FnExactFairCode': WHATEVER THE INPUT: true; the input reads as it did. -/
def fnExactFairCodeSpec : ChangeSpec := { name := "fnExactFairCode", fn := fun _ => fun
  | [d] => { results := [.lit (.bool true)], args := [d] }
  | _ => none }
def fnExactFairCodeRow : OpenClaim := { program := "ytmdpblckjeochaa", sum := "0a2f7cf28c327e9fb6a2ffeb9df3c530ca0e16dbf3cee08a953c588c9f021fc4", func := "loop.example/g01141/laws.FnExactFairCode", spec := "fnExactFairCode", unfollowed := true, recurses := true, apart := false }
def FnExactFairCodeSaid : Prop := fnExactFairCodeRow.holds Try.pinned (OpenSpec.ofChange fnExactFairCodeSpec)

/-- ITS FALSE NEIGHBOUR: 'it returns false'. Refute it at one input. -/
def fnExactFairCodeWrong : ChangeSpec := { name := "fnExactFairCode", fn := fun _ => fun
  | [d] => { results := [.lit (.bool false)], args := [d] }
  | _ => none }
def FnExactFairCodeWrongFalsely : Prop := fnExactFairCodeRow.holds Try.pinned (OpenSpec.ofChange fnExactFairCodeWrong)

/-- 'laws.FnExactSharedScores': WHATEVER THE INPUT: true; the input reads as it did. -/
def fnExactSharedScoresSpec : ChangeSpec := { name := "fnExactSharedScores", fn := fun _ => fun
  | [d1, d2] => { results := [.lit (.bool true)], args := [d1, d2] }
  | _ => none }
def fnExactSharedScoresRow : OpenClaim := { program := "ytmdpblckjeochaa", sum := "0a2f7cf28c327e9fb6a2ffeb9df3c530ca0e16dbf3cee08a953c588c9f021fc4", func := "loop.example/g01141/laws.FnExactSharedScores", spec := "fnExactSharedScores", apart := false }
def FnExactSharedScoresSaid : Prop := fnExactSharedScoresRow.holds Try.pinned (OpenSpec.ofChange fnExactSharedScoresSpec)

/-- ITS FALSE NEIGHBOUR: 'it returns false'. Refute it at one input. -/
def fnExactSharedScoresWrong : ChangeSpec := { name := "fnExactSharedScores", fn := fun _ => fun
  | [d1, d2] => { results := [.lit (.bool false)], args := [d1, d2] }
  | _ => none }
def FnExactSharedScoresWrongFalsely : Prop := fnExactSharedScoresRow.holds Try.pinned (OpenSpec.ofChange fnExactSharedScoresWrong)

/-- 'laws.FnExactBoxCode': WHATEVER THE INPUT: true; the input reads as it did. -/
def fnExactBoxCodeSpec : ChangeSpec := { name := "fnExactBoxCode", fn := fun _ => fun
  | [d] => { results := [.lit (.bool true)], args := [d] }
  | _ => none }
def fnExactBoxCodeRow : OpenClaim := { program := "ytmdpblckjeochaa", sum := "0a2f7cf28c327e9fb6a2ffeb9df3c530ca0e16dbf3cee08a953c588c9f021fc4", func := "loop.example/g01141/laws.FnExactBoxCode", spec := "fnExactBoxCode", apart := false }
def FnExactBoxCodeSaid : Prop := fnExactBoxCodeRow.holds Try.pinned (OpenSpec.ofChange fnExactBoxCodeSpec)

/-- ITS FALSE NEIGHBOUR: 'it returns false'. Refute it at one input. -/
def fnExactBoxCodeWrong : ChangeSpec := { name := "fnExactBoxCode", fn := fun _ => fun
  | [d] => { results := [.lit (.bool false)], args := [d] }
  | _ => none }
def FnExactBoxCodeWrongFalsely : Prop := fnExactBoxCodeRow.holds Try.pinned (OpenSpec.ofChange fnExactBoxCodeWrong)

/-- 'laws.FnExactChainRight': WHATEVER THE INPUT: true; the input reads as it did. -/
def fnExactChainRightSpec : ChangeSpec := { name := "fnExactChainRight", fn := fun _ => fun
  | [d1, d2, d3] => { results := [.lit (.bool true)], args := [d1, d2, d3] }
  | _ => none }
def fnExactChainRightRow : OpenClaim := { program := "ytmdpblckjeochaa", sum := "0a2f7cf28c327e9fb6a2ffeb9df3c530ca0e16dbf3cee08a953c588c9f021fc4", func := "loop.example/g01141/laws.FnExactChainRight", spec := "fnExactChainRight", apart := false }
def FnExactChainRightSaid : Prop := fnExactChainRightRow.holds Try.pinned (OpenSpec.ofChange fnExactChainRightSpec)

/-- ITS FALSE NEIGHBOUR: 'it returns false'. Refute it at one input. -/
def fnExactChainRightWrong : ChangeSpec := { name := "fnExactChainRight", fn := fun _ => fun
  | [d1, d2, d3] => { results := [.lit (.bool false)], args := [d1, d2, d3] }
  | _ => none }
def FnExactChainRightWrongFalsely : Prop := fnExactChainRightRow.holds Try.pinned (OpenSpec.ofChange fnExactChainRightWrong)

/-- 'laws.FnExactChainLeast': WHATEVER THE INPUT: true; the input reads as it did. -/
def fnExactChainLeastSpec : ChangeSpec := { name := "fnExactChainLeast", fn := fun _ => fun
  | [d] => { results := [.lit (.bool true)], args := [d] }
  | _ => none }
def fnExactChainLeastRow : OpenClaim := { program := "ytmdpblckjeochaa", sum := "0a2f7cf28c327e9fb6a2ffeb9df3c530ca0e16dbf3cee08a953c588c9f021fc4", func := "loop.example/g01141/laws.FnExactChainLeast", spec := "fnExactChainLeast", apart := false }
def FnExactChainLeastSaid : Prop := fnExactChainLeastRow.holds Try.pinned (OpenSpec.ofChange fnExactChainLeastSpec)

/-- ITS FALSE NEIGHBOUR: 'it returns false'. Refute it at one input. -/
def fnExactChainLeastWrong : ChangeSpec := { name := "fnExactChainLeast", fn := fun _ => fun
  | [d] => { results := [.lit (.bool false)], args := [d] }
  | _ => none }
def FnExactChainLeastWrongFalsely : Prop := fnExactChainLeastRow.holds Try.pinned (OpenSpec.ofChange fnExactChainLeastWrong)

/- THE SECOND FORM. 'bulk': how many values and letters a reading holds, each counted each time it is reached (what is shared counts as often as it is met; a slice's spare places count too). A statement '..UptoSaid' is the law's where the arguments, and the package variables that the reading takes, are together of bulk at most 1048576: NARROWER than '..Said'. Prove '..Said' where nothing that the law and all that it calls make is longer than what came in: it says more and counts as full. Else prove '..UptoSaid'. A law counts once. -/
mutual
def uptoBulk {H : Type} : DataW H → Nat
  | .lit (.string bytes) => bytes.length + 1
  | .lit _ => 1
  | .nil => 1
  | .ptr d => uptoBulk d + 1
  | .slice elems spare => uptoBulkAll elems + uptoBulkAll spare + 1
  | .agg parts => uptoBulkAll parts + 1
  | .iface _ d => uptoBulk d + 1
  | .map entries => uptoBulkEntries entries + 1
  | .held _ => 1
def uptoBulkAll {H : Type} : List (DataW H) → Nat
  | [] => 0
  | d :: r => uptoBulk d + uptoBulkAll r
def uptoBulkEntries {H : Type} : List (Lit × DataW H) → Nat
  | [] => 0
  | x :: r => uptoBulkEntry x + uptoBulkEntries r
def uptoBulkEntry {H : Type} : Lit × DataW H → Nat
  | (.string bytes, d) => bytes.length + uptoBulk d + 1
  | (_, d) => uptoBulk d + 1
 end
def uptoSmall : (H : Type) → List (DataW H) → Bool := fun _ ds => decide (uptoBulkAll ds ≤ 1048576)
def OpenSpec.upto (s : _root_.Go.ChangeSpec) : _root_.Go.OpenSpec := { _root_.Go.OpenSpec.ofChange s with cond := some uptoSmall }

/-- 'laws.FnExactIsCode', WHERE WHAT IT READS IS OF BULK AT MOST 1048576: true; the input reads as it did. -/
def fnExactIsCodeUptoRow : OpenClaim := { program := "ytmdpblckjeochaa", sum := "0a2f7cf28c327e9fb6a2ffeb9df3c530ca0e16dbf3cee08a953c588c9f021fc4", func := "loop.example/g01141/laws.FnExactIsCode", spec := "fnExactIsCode", apart := false, narrowed := true }
def FnExactIsCodeUptoSaid : Prop := fnExactIsCodeUptoRow.holds Try.pinned (OpenSpec.upto fnExactIsCodeSpec)

/-- 'laws.FnExactBitCode', WHERE WHAT IT READS IS OF BULK AT MOST 1048576: true; the input reads as it did. -/
def fnExactBitCodeUptoRow : OpenClaim := { program := "ytmdpblckjeochaa", sum := "0a2f7cf28c327e9fb6a2ffeb9df3c530ca0e16dbf3cee08a953c588c9f021fc4", func := "loop.example/g01141/laws.FnExactBitCode", spec := "fnExactBitCode", unfollowed := true, recurses := true, apart := false, narrowed := true }
def FnExactBitCodeUptoSaid : Prop := fnExactBitCodeUptoRow.holds Try.pinned (OpenSpec.upto fnExactBitCodeSpec)

/-- 'laws.FnExactParityCode', WHERE WHAT IT READS IS OF BULK AT MOST 1048576: true; the input reads as it did. -/
def fnExactParityCodeUptoRow : OpenClaim := { program := "ytmdpblckjeochaa", sum := "0a2f7cf28c327e9fb6a2ffeb9df3c530ca0e16dbf3cee08a953c588c9f021fc4", func := "loop.example/g01141/laws.FnExactParityCode", spec := "fnExactParityCode", unfollowed := true, recurses := true, apart := false, narrowed := true }
def FnExactParityCodeUptoSaid : Prop := fnExactParityCodeUptoRow.holds Try.pinned (OpenSpec.upto fnExactParityCodeSpec)

/-- 'laws.FnExactMajorityCode', WHERE WHAT IT READS IS OF BULK AT MOST 1048576: true; the input reads as it did. -/
def fnExactMajorityCodeUptoRow : OpenClaim := { program := "ytmdpblckjeochaa", sum := "0a2f7cf28c327e9fb6a2ffeb9df3c530ca0e16dbf3cee08a953c588c9f021fc4", func := "loop.example/g01141/laws.FnExactMajorityCode", spec := "fnExactMajorityCode", unfollowed := true, recurses := true, apart := false, narrowed := true }
def FnExactMajorityCodeUptoSaid : Prop := fnExactMajorityCodeUptoRow.holds Try.pinned (OpenSpec.upto fnExactMajorityCodeSpec)

/-- 'laws.FnExactCodeTotal', WHERE WHAT IT READS IS OF BULK AT MOST 1048576: true; the input reads as it did. -/
def fnExactCodeTotalUptoRow : OpenClaim := { program := "ytmdpblckjeochaa", sum := "0a2f7cf28c327e9fb6a2ffeb9df3c530ca0e16dbf3cee08a953c588c9f021fc4", func := "loop.example/g01141/laws.FnExactCodeTotal", spec := "fnExactCodeTotal", apart := false, narrowed := true }
def FnExactCodeTotalUptoSaid : Prop := fnExactCodeTotalUptoRow.holds Try.pinned (OpenSpec.upto fnExactCodeTotalSpec)

/-- 'laws.FnExactCodeScores', WHERE WHAT IT READS IS OF BULK AT MOST 1048576: true; the input reads as it did. -/
def fnExactCodeScoresUptoRow : OpenClaim := { program := "ytmdpblckjeochaa", sum := "0a2f7cf28c327e9fb6a2ffeb9df3c530ca0e16dbf3cee08a953c588c9f021fc4", func := "loop.example/g01141/laws.FnExactCodeScores", spec := "fnExactCodeScores", apart := false, narrowed := true }
def FnExactCodeScoresUptoSaid : Prop := fnExactCodeScoresUptoRow.holds Try.pinned (OpenSpec.upto fnExactCodeScoresSpec)

/-- 'laws.FnExactCodeGuesses', WHERE WHAT IT READS IS OF BULK AT MOST 1048576: true; the input reads as it did. -/
def fnExactCodeGuessesUptoRow : OpenClaim := { program := "ytmdpblckjeochaa", sum := "0a2f7cf28c327e9fb6a2ffeb9df3c530ca0e16dbf3cee08a953c588c9f021fc4", func := "loop.example/g01141/laws.FnExactCodeGuesses", spec := "fnExactCodeGuesses", apart := false, narrowed := true }
def FnExactCodeGuessesUptoSaid : Prop := fnExactCodeGuessesUptoRow.holds Try.pinned (OpenSpec.upto fnExactCodeGuessesSpec)

/-- 'laws.FnExactBestCode', WHERE WHAT IT READS IS OF BULK AT MOST 1048576: true; the input reads as it did. -/
def fnExactBestCodeUptoRow : OpenClaim := { program := "ytmdpblckjeochaa", sum := "0a2f7cf28c327e9fb6a2ffeb9df3c530ca0e16dbf3cee08a953c588c9f021fc4", func := "loop.example/g01141/laws.FnExactBestCode", spec := "fnExactBestCode", unfollowed := true, recurses := true, apart := false, narrowed := true }
def FnExactBestCodeUptoSaid : Prop := fnExactBestCodeUptoRow.holds Try.pinned (OpenSpec.upto fnExactBestCodeSpec)

/-- 'laws.FnExactFairCode', WHERE WHAT IT READS IS OF BULK AT MOST 1048576: true; the input reads as it did. -/
def fnExactFairCodeUptoRow : OpenClaim := { program := "ytmdpblckjeochaa", sum := "0a2f7cf28c327e9fb6a2ffeb9df3c530ca0e16dbf3cee08a953c588c9f021fc4", func := "loop.example/g01141/laws.FnExactFairCode", spec := "fnExactFairCode", unfollowed := true, recurses := true, apart := false, narrowed := true }
def FnExactFairCodeUptoSaid : Prop := fnExactFairCodeUptoRow.holds Try.pinned (OpenSpec.upto fnExactFairCodeSpec)

/-- 'laws.FnExactSharedScores', WHERE WHAT IT READS IS OF BULK AT MOST 1048576: true; the input reads as it did. -/
def fnExactSharedScoresUptoRow : OpenClaim := { program := "ytmdpblckjeochaa", sum := "0a2f7cf28c327e9fb6a2ffeb9df3c530ca0e16dbf3cee08a953c588c9f021fc4", func := "loop.example/g01141/laws.FnExactSharedScores", spec := "fnExactSharedScores", apart := false, narrowed := true }
def FnExactSharedScoresUptoSaid : Prop := fnExactSharedScoresUptoRow.holds Try.pinned (OpenSpec.upto fnExactSharedScoresSpec)

/-- 'laws.FnExactBoxCode', WHERE WHAT IT READS IS OF BULK AT MOST 1048576: true; the input reads as it did. -/
def fnExactBoxCodeUptoRow : OpenClaim := { program := "ytmdpblckjeochaa", sum := "0a2f7cf28c327e9fb6a2ffeb9df3c530ca0e16dbf3cee08a953c588c9f021fc4", func := "loop.example/g01141/laws.FnExactBoxCode", spec := "fnExactBoxCode", apart := false, narrowed := true }
def FnExactBoxCodeUptoSaid : Prop := fnExactBoxCodeUptoRow.holds Try.pinned (OpenSpec.upto fnExactBoxCodeSpec)

/-- 'laws.FnExactChainRight', WHERE WHAT IT READS IS OF BULK AT MOST 1048576: true; the input reads as it did. -/
def fnExactChainRightUptoRow : OpenClaim := { program := "ytmdpblckjeochaa", sum := "0a2f7cf28c327e9fb6a2ffeb9df3c530ca0e16dbf3cee08a953c588c9f021fc4", func := "loop.example/g01141/laws.FnExactChainRight", spec := "fnExactChainRight", apart := false, narrowed := true }
def FnExactChainRightUptoSaid : Prop := fnExactChainRightUptoRow.holds Try.pinned (OpenSpec.upto fnExactChainRightSpec)

/-- 'laws.FnExactChainLeast', WHERE WHAT IT READS IS OF BULK AT MOST 1048576: true; the input reads as it did. -/
def fnExactChainLeastUptoRow : OpenClaim := { program := "ytmdpblckjeochaa", sum := "0a2f7cf28c327e9fb6a2ffeb9df3c530ca0e16dbf3cee08a953c588c9f021fc4", func := "loop.example/g01141/laws.FnExactChainLeast", spec := "fnExactChainLeast", apart := false, narrowed := true }
def FnExactChainLeastUptoSaid : Prop := fnExactChainLeastUptoRow.holds Try.pinned (OpenSpec.upto fnExactChainLeastSpec)

end Rows
end Go.Proofs.Ytmdpblckjeochaa
