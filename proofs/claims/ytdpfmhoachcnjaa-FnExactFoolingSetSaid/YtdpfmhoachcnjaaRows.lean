/-
  No cell of these rows narrows 'for every input' (looked for: loops, veiled, ifaces, maps, wideKeys, modest, calm, conditions, laid).
  DERIVED. THE GIVEN ROWS OF THIS SEAT. 15 by the template 'for every input the law returns true; each argument reads behind the call as it read before'; 0 by the template 'total and deterministic' (their statements: YtdpfmhoachcnjaaTotals.lean).
  GIVEN WITH THE SEED: the statements are not yours to turn. If you find one false, say at which input.
  Laid BY PROGRAM, IN A SANDBOX (cutbox-rows.mjs): the forced cells as the released guide's own fill.sh prints them over the translation d607aae7f775180a… (all of the seat's roots in one cut). By AI agents, Wed Nov 11 2026. No macro, syntax, notation, axiom, sorry.
-/
import Derived.Test.YtdpfmhoachcnjaaChecked
import GoSem.Claim
import GoSem.ClaimJoined
import GoSem.ClaimMapViews
import Derived.JoinedTies
import Derived.KernelRfl
namespace Go.Proofs.Ytdpfmhoachcnjaa
/- THE CELL 'sum', in the pinned program and in every row, IS THE sha256 OF THE DUMP (.gsa) THAT YtdpfmhoachcnjaaProg.lean LOADS. Nothing in Lean hashes anything: it is a label: what it is worth is what the hold of that sum in a sandbox is worth. -/
noncomputable def Try.pinned : Pinned := { name := "ytdpfmhoachcnjaa", sum := "d607aae7f775180a8f18145455fe8a8bb3131d3bb6ad6c016965bae1dbe081db", checked := Try.checked }
namespace Rows
def none {H : Type} : Left H := { results := [], args := [] }

/-- 'laws.FnExactIsTask': WHATEVER THE INPUT: true; the input reads as it did. -/
def fnExactIsTaskSpec : ChangeSpec := { name := "fnExactIsTask", fn := fun _ => fun
  | [d] => { results := [.lit (.bool true)], args := [d] }
  | _ => none }
def fnExactIsTaskRow : OpenClaim := { program := "ytdpfmhoachcnjaa", sum := "d607aae7f775180a8f18145455fe8a8bb3131d3bb6ad6c016965bae1dbe081db", func := "loop.example/g01141/laws.FnExactIsTask", spec := "fnExactIsTask", plainKeys := false, apart := false }
def FnExactIsTaskSaid : Prop := fnExactIsTaskRow.holds Try.pinned (OpenSpec.ofChange fnExactIsTaskSpec)

/-- ITS FALSE NEIGHBOUR: 'it returns false'. Refute it at one input. -/
def fnExactIsTaskWrong : ChangeSpec := { name := "fnExactIsTask", fn := fun _ => fun
  | [d] => { results := [.lit (.bool false)], args := [d] }
  | _ => none }
def FnExactIsTaskWrongFalsely : Prop := fnExactIsTaskRow.holds Try.pinned (OpenSpec.ofChange fnExactIsTaskWrong)

/-- 'laws.FnExactCountRows': WHATEVER THE INPUT: true; the input reads as it did. -/
def fnExactCountRowsSpec : ChangeSpec := { name := "fnExactCountRows", fn := fun _ => fun
  | [d] => { results := [.lit (.bool true)], args := [d] }
  | _ => none }
def fnExactCountRowsRow : OpenClaim := { program := "ytdpfmhoachcnjaa", sum := "d607aae7f775180a8f18145455fe8a8bb3131d3bb6ad6c016965bae1dbe081db", func := "loop.example/g01141/laws.FnExactCountRows", spec := "fnExactCountRows", plainKeys := false, apart := false }
def FnExactCountRowsSaid : Prop := fnExactCountRowsRow.holds Try.pinned (OpenSpec.ofChange fnExactCountRowsSpec)

/-- ITS FALSE NEIGHBOUR: 'it returns false'. Refute it at one input. -/
def fnExactCountRowsWrong : ChangeSpec := { name := "fnExactCountRows", fn := fun _ => fun
  | [d] => { results := [.lit (.bool false)], args := [d] }
  | _ => none }
def FnExactCountRowsWrongFalsely : Prop := fnExactCountRowsRow.holds Try.pinned (OpenSpec.ofChange fnExactCountRowsWrong)

/-- 'laws.FnExactTurnTask': WHATEVER THE INPUT: true; the input reads as it did. -/
def fnExactTurnTaskSpec : ChangeSpec := { name := "fnExactTurnTask", fn := fun _ => fun
  | [d] => { results := [.lit (.bool true)], args := [d] }
  | _ => none }
def fnExactTurnTaskRow : OpenClaim := { program := "ytdpfmhoachcnjaa", sum := "d607aae7f775180a8f18145455fe8a8bb3131d3bb6ad6c016965bae1dbe081db", func := "loop.example/g01141/laws.FnExactTurnTask", spec := "fnExactTurnTask", plainKeys := false, apart := false }
def FnExactTurnTaskSaid : Prop := fnExactTurnTaskRow.holds Try.pinned (OpenSpec.ofChange fnExactTurnTaskSpec)

/-- ITS FALSE NEIGHBOUR: 'it returns false'. Refute it at one input. -/
def fnExactTurnTaskWrong : ChangeSpec := { name := "fnExactTurnTask", fn := fun _ => fun
  | [d] => { results := [.lit (.bool false)], args := [d] }
  | _ => none }
def FnExactTurnTaskWrongFalsely : Prop := fnExactTurnTaskRow.holds Try.pinned (OpenSpec.ofChange fnExactTurnTaskWrong)

/-- 'laws.FnExactIsPlain': WHATEVER THE INPUT: true; the input reads as it did. -/
def fnExactIsPlainSpec : ChangeSpec := { name := "fnExactIsPlain", fn := fun _ => fun
  | [d1, d2, d3] => { results := [.lit (.bool true)], args := [d1, d2, d3] }
  | _ => none }
def fnExactIsPlainRow : OpenClaim := { program := "ytdpfmhoachcnjaa", sum := "d607aae7f775180a8f18145455fe8a8bb3131d3bb6ad6c016965bae1dbe081db", func := "loop.example/g01141/laws.FnExactIsPlain", spec := "fnExactIsPlain", plainKeys := false, apart := false }
def FnExactIsPlainSaid : Prop := fnExactIsPlainRow.holds Try.pinned (OpenSpec.ofChange fnExactIsPlainSpec)

/-- ITS FALSE NEIGHBOUR: 'it returns false'. Refute it at one input. -/
def fnExactIsPlainWrong : ChangeSpec := { name := "fnExactIsPlain", fn := fun _ => fun
  | [d1, d2, d3] => { results := [.lit (.bool false)], args := [d1, d2, d3] }
  | _ => none }
def FnExactIsPlainWrongFalsely : Prop := fnExactIsPlainRow.holds Try.pinned (OpenSpec.ofChange fnExactIsPlainWrong)

/-- 'laws.FnExactRanksOf': WHATEVER THE INPUT: true; the input reads as it did. -/
def fnExactRanksOfSpec : ChangeSpec := { name := "fnExactRanksOf", fn := fun _ => fun
  | [d] => { results := [.lit (.bool true)], args := [d] }
  | _ => none }
def fnExactRanksOfRow : OpenClaim := { program := "ytdpfmhoachcnjaa", sum := "d607aae7f775180a8f18145455fe8a8bb3131d3bb6ad6c016965bae1dbe081db", func := "loop.example/g01141/laws.FnExactRanksOf", spec := "fnExactRanksOf", plainKeys := false, apart := false }
def FnExactRanksOfSaid : Prop := fnExactRanksOfRow.holds Try.pinned (OpenSpec.ofChange fnExactRanksOfSpec)

/-- ITS FALSE NEIGHBOUR: 'it returns false'. Refute it at one input. -/
def fnExactRanksOfWrong : ChangeSpec := { name := "fnExactRanksOf", fn := fun _ => fun
  | [d] => { results := [.lit (.bool false)], args := [d] }
  | _ => none }
def FnExactRanksOfWrongFalsely : Prop := fnExactRanksOfRow.holds Try.pinned (OpenSpec.ofChange fnExactRanksOfWrong)

/-- 'laws.FnExactIsTalk': WHATEVER THE INPUT: true; the input reads as it did. -/
def fnExactIsTalkSpec : ChangeSpec := { name := "fnExactIsTalk", fn := fun _ => fun
  | [d1, d2, d3] => { results := [.lit (.bool true)], args := [d1, d2, d3] }
  | _ => none }
def fnExactIsTalkRow : OpenClaim := { program := "ytdpfmhoachcnjaa", sum := "d607aae7f775180a8f18145455fe8a8bb3131d3bb6ad6c016965bae1dbe081db", func := "loop.example/g01141/laws.FnExactIsTalk", spec := "fnExactIsTalk", plainKeys := false, apart := false }
def FnExactIsTalkSaid : Prop := fnExactIsTalkRow.holds Try.pinned (OpenSpec.ofChange fnExactIsTalkSpec)

/-- ITS FALSE NEIGHBOUR: 'it returns false'. Refute it at one input. -/
def fnExactIsTalkWrong : ChangeSpec := { name := "fnExactIsTalk", fn := fun _ => fun
  | [d1, d2, d3] => { results := [.lit (.bool false)], args := [d1, d2, d3] }
  | _ => none }
def FnExactIsTalkWrongFalsely : Prop := fnExactIsTalkRow.holds Try.pinned (OpenSpec.ofChange fnExactIsTalkWrong)

/-- 'laws.FnExactTalkValue': WHATEVER THE INPUT: true; the input reads as it did. -/
def fnExactTalkValueSpec : ChangeSpec := { name := "fnExactTalkValue", fn := fun _ => fun
  | [d] => { results := [.lit (.bool true)], args := [d] }
  | _ => none }
def fnExactTalkValueRow : OpenClaim := { program := "ytdpfmhoachcnjaa", sum := "d607aae7f775180a8f18145455fe8a8bb3131d3bb6ad6c016965bae1dbe081db", func := "loop.example/g01141/laws.FnExactTalkValue", spec := "fnExactTalkValue", plainKeys := false, apart := false }
def FnExactTalkValueSaid : Prop := fnExactTalkValueRow.holds Try.pinned (OpenSpec.ofChange fnExactTalkValueSpec)

/-- ITS FALSE NEIGHBOUR: 'it returns false'. Refute it at one input. -/
def fnExactTalkValueWrong : ChangeSpec := { name := "fnExactTalkValue", fn := fun _ => fun
  | [d] => { results := [.lit (.bool false)], args := [d] }
  | _ => none }
def FnExactTalkValueWrongFalsely : Prop := fnExactTalkValueRow.holds Try.pinned (OpenSpec.ofChange fnExactTalkValueWrong)

/-- 'laws.FnExactFoolingSet': WHATEVER THE INPUT: true; the input reads as it did. -/
def fnExactFoolingSetSpec : ChangeSpec := { name := "fnExactFoolingSet", fn := fun _ => fun
  | [d1, d2] => { results := [.lit (.bool true)], args := [d1, d2] }
  | _ => none }
def fnExactFoolingSetRow : OpenClaim := { program := "ytdpfmhoachcnjaa", sum := "d607aae7f775180a8f18145455fe8a8bb3131d3bb6ad6c016965bae1dbe081db", func := "loop.example/g01141/laws.FnExactFoolingSet", spec := "fnExactFoolingSet", unfollowed := true, recurses := true, plainKeys := false, apart := false }
def FnExactFoolingSetSaid : Prop := fnExactFoolingSetRow.holds Try.pinned (OpenSpec.ofChange fnExactFoolingSetSpec)

/-- ITS FALSE NEIGHBOUR: 'it returns false'. Refute it at one input. -/
def fnExactFoolingSetWrong : ChangeSpec := { name := "fnExactFoolingSet", fn := fun _ => fun
  | [d1, d2] => { results := [.lit (.bool false)], args := [d1, d2] }
  | _ => none }
def FnExactFoolingSetWrongFalsely : Prop := fnExactFoolingSetRow.holds Try.pinned (OpenSpec.ofChange fnExactFoolingSetWrong)

/-- 'laws.FnExactNeedOf': WHATEVER THE INPUT: true; the input reads as it did. -/
def fnExactNeedOfSpec : ChangeSpec := { name := "fnExactNeedOf", fn := fun _ => fun
  | [d] => { results := [.lit (.bool true)], args := [d] }
  | _ => none }
def fnExactNeedOfRow : OpenClaim := { program := "ytdpfmhoachcnjaa", sum := "d607aae7f775180a8f18145455fe8a8bb3131d3bb6ad6c016965bae1dbe081db", func := "loop.example/g01141/laws.FnExactNeedOf", spec := "fnExactNeedOf", recurses := true, plainKeys := false, apart := false }
def FnExactNeedOfSaid : Prop := fnExactNeedOfRow.holds Try.pinned (OpenSpec.ofChange fnExactNeedOfSpec)

/-- ITS FALSE NEIGHBOUR: 'it returns false'. Refute it at one input. -/
def fnExactNeedOfWrong : ChangeSpec := { name := "fnExactNeedOf", fn := fun _ => fun
  | [d] => { results := [.lit (.bool false)], args := [d] }
  | _ => none }
def FnExactNeedOfWrongFalsely : Prop := fnExactNeedOfRow.holds Try.pinned (OpenSpec.ofChange fnExactNeedOfWrong)

/-- 'laws.FnExactCoverNumber': WHATEVER THE INPUT: true; the input reads as it did. -/
def fnExactCoverNumberSpec : ChangeSpec := { name := "fnExactCoverNumber", fn := fun _ => fun
  | [d1, d2] => { results := [.lit (.bool true)], args := [d1, d2] }
  | _ => none }
def fnExactCoverNumberRow : OpenClaim := { program := "ytdpfmhoachcnjaa", sum := "d607aae7f775180a8f18145455fe8a8bb3131d3bb6ad6c016965bae1dbe081db", func := "loop.example/g01141/laws.FnExactCoverNumber", spec := "fnExactCoverNumber", unfollowed := true, recurses := true, plainKeys := false, apart := false }
def FnExactCoverNumberSaid : Prop := fnExactCoverNumberRow.holds Try.pinned (OpenSpec.ofChange fnExactCoverNumberSpec)

/-- ITS FALSE NEIGHBOUR: 'it returns false'. Refute it at one input. -/
def fnExactCoverNumberWrong : ChangeSpec := { name := "fnExactCoverNumber", fn := fun _ => fun
  | [d1, d2] => { results := [.lit (.bool false)], args := [d1, d2] }
  | _ => none }
def FnExactCoverNumberWrongFalsely : Prop := fnExactCoverNumberRow.holds Try.pinned (OpenSpec.ofChange fnExactCoverNumberWrong)

/-- 'laws.FnExactTalkBits': WHATEVER THE INPUT: true; the input reads as it did. -/
def fnExactTalkBitsSpec : ChangeSpec := { name := "fnExactTalkBits", fn := fun _ => fun
  | [d1, d2, d3] => { results := [.lit (.bool true)], args := [d1, d2, d3] }
  | _ => none }
def fnExactTalkBitsRow : OpenClaim := { program := "ytdpfmhoachcnjaa", sum := "d607aae7f775180a8f18145455fe8a8bb3131d3bb6ad6c016965bae1dbe081db", func := "loop.example/g01141/laws.FnExactTalkBits", spec := "fnExactTalkBits", plainKeys := false, apart := false }
def FnExactTalkBitsSaid : Prop := fnExactTalkBitsRow.holds Try.pinned (OpenSpec.ofChange fnExactTalkBitsSpec)

/-- ITS FALSE NEIGHBOUR: 'it returns false'. Refute it at one input. -/
def fnExactTalkBitsWrong : ChangeSpec := { name := "fnExactTalkBits", fn := fun _ => fun
  | [d1, d2, d3] => { results := [.lit (.bool false)], args := [d1, d2, d3] }
  | _ => none }
def FnExactTalkBitsWrongFalsely : Prop := fnExactTalkBitsRow.holds Try.pinned (OpenSpec.ofChange fnExactTalkBitsWrong)

/-- 'laws.FnExactTalkSolves': WHATEVER THE INPUT: true; the input reads as it did. -/
def fnExactTalkSolvesSpec : ChangeSpec := { name := "fnExactTalkSolves", fn := fun _ => fun
  | [d1, d2] => { results := [.lit (.bool true)], args := [d1, d2] }
  | _ => none }
def fnExactTalkSolvesRow : OpenClaim := { program := "ytdpfmhoachcnjaa", sum := "d607aae7f775180a8f18145455fe8a8bb3131d3bb6ad6c016965bae1dbe081db", func := "loop.example/g01141/laws.FnExactTalkSolves", spec := "fnExactTalkSolves", plainKeys := false, apart := false }
def FnExactTalkSolvesSaid : Prop := fnExactTalkSolvesRow.holds Try.pinned (OpenSpec.ofChange fnExactTalkSolvesSpec)

/-- ITS FALSE NEIGHBOUR: 'it returns false'. Refute it at one input. -/
def fnExactTalkSolvesWrong : ChangeSpec := { name := "fnExactTalkSolves", fn := fun _ => fun
  | [d1, d2] => { results := [.lit (.bool false)], args := [d1, d2] }
  | _ => none }
def FnExactTalkSolvesWrongFalsely : Prop := fnExactTalkSolvesRow.holds Try.pinned (OpenSpec.ofChange fnExactTalkSolvesWrong)

/-- 'laws.FnExactRunTalk': WHATEVER THE INPUT: true; the input reads as it did. -/
def fnExactRunTalkSpec : ChangeSpec := { name := "fnExactRunTalk", fn := fun _ => fun
  | [d1, d2, d3, d4, d5] => { results := [.lit (.bool true)], args := [d1, d2, d3, d4, d5] }
  | _ => none }
def fnExactRunTalkRow : OpenClaim := { program := "ytdpfmhoachcnjaa", sum := "d607aae7f775180a8f18145455fe8a8bb3131d3bb6ad6c016965bae1dbe081db", func := "loop.example/g01141/laws.FnExactRunTalk", spec := "fnExactRunTalk", plainKeys := false, apart := false }
def FnExactRunTalkSaid : Prop := fnExactRunTalkRow.holds Try.pinned (OpenSpec.ofChange fnExactRunTalkSpec)

/-- ITS FALSE NEIGHBOUR: 'it returns false'. Refute it at one input. -/
def fnExactRunTalkWrong : ChangeSpec := { name := "fnExactRunTalk", fn := fun _ => fun
  | [d1, d2, d3, d4, d5] => { results := [.lit (.bool false)], args := [d1, d2, d3, d4, d5] }
  | _ => none }
def FnExactRunTalkWrongFalsely : Prop := fnExactRunTalkRow.holds Try.pinned (OpenSpec.ofChange fnExactRunTalkWrong)

/-- 'laws.FnExactFirstSplit': WHATEVER THE INPUT: true; the input reads as it did. -/
def fnExactFirstSplitSpec : ChangeSpec := { name := "fnExactFirstSplit", fn := fun _ => fun
  | [d] => { results := [.lit (.bool true)], args := [d] }
  | _ => none }
def fnExactFirstSplitRow : OpenClaim := { program := "ytdpfmhoachcnjaa", sum := "d607aae7f775180a8f18145455fe8a8bb3131d3bb6ad6c016965bae1dbe081db", func := "loop.example/g01141/laws.FnExactFirstSplit", spec := "fnExactFirstSplit", recurses := true, plainKeys := false, apart := false }
def FnExactFirstSplitSaid : Prop := fnExactFirstSplitRow.holds Try.pinned (OpenSpec.ofChange fnExactFirstSplitSpec)

/-- ITS FALSE NEIGHBOUR: 'it returns false'. Refute it at one input. -/
def fnExactFirstSplitWrong : ChangeSpec := { name := "fnExactFirstSplit", fn := fun _ => fun
  | [d] => { results := [.lit (.bool false)], args := [d] }
  | _ => none }
def FnExactFirstSplitWrongFalsely : Prop := fnExactFirstSplitRow.holds Try.pinned (OpenSpec.ofChange fnExactFirstSplitWrong)

/-- 'laws.FnExactBestTalk': WHATEVER THE INPUT: true; the input reads as it did. -/
def fnExactBestTalkSpec : ChangeSpec := { name := "fnExactBestTalk", fn := fun _ => fun
  | [d] => { results := [.lit (.bool true)], args := [d] }
  | _ => none }
def fnExactBestTalkRow : OpenClaim := { program := "ytdpfmhoachcnjaa", sum := "d607aae7f775180a8f18145455fe8a8bb3131d3bb6ad6c016965bae1dbe081db", func := "loop.example/g01141/laws.FnExactBestTalk", spec := "fnExactBestTalk", recurses := true, plainKeys := false, apart := false }
def FnExactBestTalkSaid : Prop := fnExactBestTalkRow.holds Try.pinned (OpenSpec.ofChange fnExactBestTalkSpec)

/-- ITS FALSE NEIGHBOUR: 'it returns false'. Refute it at one input. -/
def fnExactBestTalkWrong : ChangeSpec := { name := "fnExactBestTalk", fn := fun _ => fun
  | [d] => { results := [.lit (.bool false)], args := [d] }
  | _ => none }
def FnExactBestTalkWrongFalsely : Prop := fnExactBestTalkRow.holds Try.pinned (OpenSpec.ofChange fnExactBestTalkWrong)

/- THE SECOND FORM. 'bulk': how many values and letters a reading holds, each counted each time it is reached (what is shared counts as often as it is met; a slice's spare places count too). A statement '..UptoSaid' is the law's where the arguments, and the package variables that the reading takes, are together of bulk at most 1048576: NARROWER than '..Said'. Prove '..Said' where nothing that the law and all that it calls make is longer than what came in: it says more and counts as full. Else prove '..UptoSaid'. A law counts once. -/
mutual
def uptoBulk {H : Type} : DataW H → Nat
  | .lit (.string bytes) => bytes.length + 1
  | .lit _ => 1
  | .nil => 1
  | .ptr d => uptoBulk d + 1
  | .slice elems spare => uptoBulkAll elems + uptoBulkAll spare + 1
  | .agg parts => uptoBulkAll parts + 1
  | .iface _ d => uptoBulk d + 1
  | .map entries => uptoBulkEntries entries + 1
  | .held _ => 1
def uptoBulkAll {H : Type} : List (DataW H) → Nat
  | [] => 0
  | d :: r => uptoBulk d + uptoBulkAll r
def uptoBulkEntries {H : Type} : List (Lit × DataW H) → Nat
  | [] => 0
  | x :: r => uptoBulkEntry x + uptoBulkEntries r
def uptoBulkEntry {H : Type} : Lit × DataW H → Nat
  | (.string bytes, d) => bytes.length + uptoBulk d + 1
  | (_, d) => uptoBulk d + 1
 end
def uptoSmall : (H : Type) → List (DataW H) → Bool := fun _ ds => decide (uptoBulkAll ds ≤ 1048576)
def OpenSpec.upto (s : _root_.Go.ChangeSpec) : _root_.Go.OpenSpec := { _root_.Go.OpenSpec.ofChange s with cond := some uptoSmall }

/-- 'laws.FnExactIsTask', WHERE WHAT IT READS IS OF BULK AT MOST 1048576: true; the input reads as it did. -/
def fnExactIsTaskUptoRow : OpenClaim := { program := "ytdpfmhoachcnjaa", sum := "d607aae7f775180a8f18145455fe8a8bb3131d3bb6ad6c016965bae1dbe081db", func := "loop.example/g01141/laws.FnExactIsTask", spec := "fnExactIsTask", plainKeys := false, apart := false, narrowed := true }
def FnExactIsTaskUptoSaid : Prop := fnExactIsTaskUptoRow.holds Try.pinned (OpenSpec.upto fnExactIsTaskSpec)

/-- 'laws.FnExactCountRows', WHERE WHAT IT READS IS OF BULK AT MOST 1048576: true; the input reads as it did. -/
def fnExactCountRowsUptoRow : OpenClaim := { program := "ytdpfmhoachcnjaa", sum := "d607aae7f775180a8f18145455fe8a8bb3131d3bb6ad6c016965bae1dbe081db", func := "loop.example/g01141/laws.FnExactCountRows", spec := "fnExactCountRows", plainKeys := false, apart := false, narrowed := true }
def FnExactCountRowsUptoSaid : Prop := fnExactCountRowsUptoRow.holds Try.pinned (OpenSpec.upto fnExactCountRowsSpec)

/-- 'laws.FnExactTurnTask', WHERE WHAT IT READS IS OF BULK AT MOST 1048576: true; the input reads as it did. -/
def fnExactTurnTaskUptoRow : OpenClaim := { program := "ytdpfmhoachcnjaa", sum := "d607aae7f775180a8f18145455fe8a8bb3131d3bb6ad6c016965bae1dbe081db", func := "loop.example/g01141/laws.FnExactTurnTask", spec := "fnExactTurnTask", plainKeys := false, apart := false, narrowed := true }
def FnExactTurnTaskUptoSaid : Prop := fnExactTurnTaskUptoRow.holds Try.pinned (OpenSpec.upto fnExactTurnTaskSpec)

/-- 'laws.FnExactIsPlain', WHERE WHAT IT READS IS OF BULK AT MOST 1048576: true; the input reads as it did. -/
def fnExactIsPlainUptoRow : OpenClaim := { program := "ytdpfmhoachcnjaa", sum := "d607aae7f775180a8f18145455fe8a8bb3131d3bb6ad6c016965bae1dbe081db", func := "loop.example/g01141/laws.FnExactIsPlain", spec := "fnExactIsPlain", plainKeys := false, apart := false, narrowed := true }
def FnExactIsPlainUptoSaid : Prop := fnExactIsPlainUptoRow.holds Try.pinned (OpenSpec.upto fnExactIsPlainSpec)

/-- 'laws.FnExactRanksOf', WHERE WHAT IT READS IS OF BULK AT MOST 1048576: true; the input reads as it did. -/
def fnExactRanksOfUptoRow : OpenClaim := { program := "ytdpfmhoachcnjaa", sum := "d607aae7f775180a8f18145455fe8a8bb3131d3bb6ad6c016965bae1dbe081db", func := "loop.example/g01141/laws.FnExactRanksOf", spec := "fnExactRanksOf", plainKeys := false, apart := false, narrowed := true }
def FnExactRanksOfUptoSaid : Prop := fnExactRanksOfUptoRow.holds Try.pinned (OpenSpec.upto fnExactRanksOfSpec)

/-- 'laws.FnExactIsTalk', WHERE WHAT IT READS IS OF BULK AT MOST 1048576: true; the input reads as it did. -/
def fnExactIsTalkUptoRow : OpenClaim := { program := "ytdpfmhoachcnjaa", sum := "d607aae7f775180a8f18145455fe8a8bb3131d3bb6ad6c016965bae1dbe081db", func := "loop.example/g01141/laws.FnExactIsTalk", spec := "fnExactIsTalk", plainKeys := false, apart := false, narrowed := true }
def FnExactIsTalkUptoSaid : Prop := fnExactIsTalkUptoRow.holds Try.pinned (OpenSpec.upto fnExactIsTalkSpec)

/-- 'laws.FnExactTalkValue', WHERE WHAT IT READS IS OF BULK AT MOST 1048576: true; the input reads as it did. -/
def fnExactTalkValueUptoRow : OpenClaim := { program := "ytdpfmhoachcnjaa", sum := "d607aae7f775180a8f18145455fe8a8bb3131d3bb6ad6c016965bae1dbe081db", func := "loop.example/g01141/laws.FnExactTalkValue", spec := "fnExactTalkValue", plainKeys := false, apart := false, narrowed := true }
def FnExactTalkValueUptoSaid : Prop := fnExactTalkValueUptoRow.holds Try.pinned (OpenSpec.upto fnExactTalkValueSpec)

/-- 'laws.FnExactFoolingSet', WHERE WHAT IT READS IS OF BULK AT MOST 1048576: true; the input reads as it did. -/
def fnExactFoolingSetUptoRow : OpenClaim := { program := "ytdpfmhoachcnjaa", sum := "d607aae7f775180a8f18145455fe8a8bb3131d3bb6ad6c016965bae1dbe081db", func := "loop.example/g01141/laws.FnExactFoolingSet", spec := "fnExactFoolingSet", unfollowed := true, recurses := true, plainKeys := false, apart := false, narrowed := true }
def FnExactFoolingSetUptoSaid : Prop := fnExactFoolingSetUptoRow.holds Try.pinned (OpenSpec.upto fnExactFoolingSetSpec)

/-- 'laws.FnExactNeedOf', WHERE WHAT IT READS IS OF BULK AT MOST 1048576: true; the input reads as it did. -/
def fnExactNeedOfUptoRow : OpenClaim := { program := "ytdpfmhoachcnjaa", sum := "d607aae7f775180a8f18145455fe8a8bb3131d3bb6ad6c016965bae1dbe081db", func := "loop.example/g01141/laws.FnExactNeedOf", spec := "fnExactNeedOf", recurses := true, plainKeys := false, apart := false, narrowed := true }
def FnExactNeedOfUptoSaid : Prop := fnExactNeedOfUptoRow.holds Try.pinned (OpenSpec.upto fnExactNeedOfSpec)

/-- 'laws.FnExactCoverNumber', WHERE WHAT IT READS IS OF BULK AT MOST 1048576: true; the input reads as it did. -/
def fnExactCoverNumberUptoRow : OpenClaim := { program := "ytdpfmhoachcnjaa", sum := "d607aae7f775180a8f18145455fe8a8bb3131d3bb6ad6c016965bae1dbe081db", func := "loop.example/g01141/laws.FnExactCoverNumber", spec := "fnExactCoverNumber", unfollowed := true, recurses := true, plainKeys := false, apart := false, narrowed := true }
def FnExactCoverNumberUptoSaid : Prop := fnExactCoverNumberUptoRow.holds Try.pinned (OpenSpec.upto fnExactCoverNumberSpec)

/-- 'laws.FnExactTalkBits', WHERE WHAT IT READS IS OF BULK AT MOST 1048576: true; the input reads as it did. -/
def fnExactTalkBitsUptoRow : OpenClaim := { program := "ytdpfmhoachcnjaa", sum := "d607aae7f775180a8f18145455fe8a8bb3131d3bb6ad6c016965bae1dbe081db", func := "loop.example/g01141/laws.FnExactTalkBits", spec := "fnExactTalkBits", plainKeys := false, apart := false, narrowed := true }
def FnExactTalkBitsUptoSaid : Prop := fnExactTalkBitsUptoRow.holds Try.pinned (OpenSpec.upto fnExactTalkBitsSpec)

/-- 'laws.FnExactTalkSolves', WHERE WHAT IT READS IS OF BULK AT MOST 1048576: true; the input reads as it did. -/
def fnExactTalkSolvesUptoRow : OpenClaim := { program := "ytdpfmhoachcnjaa", sum := "d607aae7f775180a8f18145455fe8a8bb3131d3bb6ad6c016965bae1dbe081db", func := "loop.example/g01141/laws.FnExactTalkSolves", spec := "fnExactTalkSolves", plainKeys := false, apart := false, narrowed := true }
def FnExactTalkSolvesUptoSaid : Prop := fnExactTalkSolvesUptoRow.holds Try.pinned (OpenSpec.upto fnExactTalkSolvesSpec)

/-- 'laws.FnExactRunTalk', WHERE WHAT IT READS IS OF BULK AT MOST 1048576: true; the input reads as it did. -/
def fnExactRunTalkUptoRow : OpenClaim := { program := "ytdpfmhoachcnjaa", sum := "d607aae7f775180a8f18145455fe8a8bb3131d3bb6ad6c016965bae1dbe081db", func := "loop.example/g01141/laws.FnExactRunTalk", spec := "fnExactRunTalk", plainKeys := false, apart := false, narrowed := true }
def FnExactRunTalkUptoSaid : Prop := fnExactRunTalkUptoRow.holds Try.pinned (OpenSpec.upto fnExactRunTalkSpec)

/-- 'laws.FnExactFirstSplit', WHERE WHAT IT READS IS OF BULK AT MOST 1048576: true; the input reads as it did. -/
def fnExactFirstSplitUptoRow : OpenClaim := { program := "ytdpfmhoachcnjaa", sum := "d607aae7f775180a8f18145455fe8a8bb3131d3bb6ad6c016965bae1dbe081db", func := "loop.example/g01141/laws.FnExactFirstSplit", spec := "fnExactFirstSplit", recurses := true, plainKeys := false, apart := false, narrowed := true }
def FnExactFirstSplitUptoSaid : Prop := fnExactFirstSplitUptoRow.holds Try.pinned (OpenSpec.upto fnExactFirstSplitSpec)

/-- 'laws.FnExactBestTalk', WHERE WHAT IT READS IS OF BULK AT MOST 1048576: true; the input reads as it did. -/
def fnExactBestTalkUptoRow : OpenClaim := { program := "ytdpfmhoachcnjaa", sum := "d607aae7f775180a8f18145455fe8a8bb3131d3bb6ad6c016965bae1dbe081db", func := "loop.example/g01141/laws.FnExactBestTalk", spec := "fnExactBestTalk", recurses := true, plainKeys := false, apart := false, narrowed := true }
def FnExactBestTalkUptoSaid : Prop := fnExactBestTalkUptoRow.holds Try.pinned (OpenSpec.upto fnExactBestTalkSpec)

end Rows
end Go.Proofs.Ytdpfmhoachcnjaa
