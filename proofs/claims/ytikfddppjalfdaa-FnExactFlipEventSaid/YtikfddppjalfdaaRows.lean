/-
  No cell of these rows narrows 'for every input' (looked for: loops, veiled, ifaces, maps, wideKeys, modest, calm, conditions, laid).
  DERIVED. THE GIVEN ROWS OF THIS SEAT. 16 by the template 'for every input the law returns true; each argument reads behind the call as it read before'; 0 by the template 'total and deterministic' (their statements: YtikfddppjalfdaaTotals.lean).
  GIVEN WITH THE SEED: the statements are not yours to turn. If you find one false, say at which input.
  Laid BY PROGRAM, IN A SANDBOX (cutbox-rows.mjs): the forced cells as the released guide's own fill.sh prints them over the translation 50869522dfeef231… (all of the seat's roots in one cut). By AI agents, Wed Nov 11 2026. No macro, syntax, notation, axiom, sorry.
-/
import Derived.Test.YtikfddppjalfdaaChecked
import GoSem.Claim
import GoSem.ClaimJoined
import GoSem.ClaimMapViews
import Derived.JoinedTies
import Derived.KernelRfl
namespace Go.Proofs.Ytikfddppjalfdaa
/- THE CELL 'sum', in the pinned program and in every row, IS THE sha256 OF THE DUMP (.gsa) THAT YtikfddppjalfdaaProg.lean LOADS. Nothing in Lean hashes anything: it is a label: what it is worth is what the hold of that sum in a sandbox is worth. -/
noncomputable def Try.pinned : Pinned := { name := "ytikfddppjalfdaa", sum := "50869522dfeef23101096b114ebdb7df849ac8a177396b5761d21ada17212967", checked := Try.checked }
namespace Rows
def none {H : Type} : Left H := { results := [], args := [] }

/-- 'laws.FnExactNamedRule': WHATEVER THE INPUT: true; the input reads as it did. -/
def fnExactNamedRuleSpec : ChangeSpec := { name := "fnExactNamedRule", fn := fun _ => fun
  | [d] => { results := [.lit (.bool true)], args := [d] }
  | _ => none }
def fnExactNamedRuleRow : OpenClaim := { program := "ytikfddppjalfdaa", sum := "50869522dfeef23101096b114ebdb7df849ac8a177396b5761d21ada17212967", func := "loop.example/g01141/laws.FnExactNamedRule", spec := "fnExactNamedRule", apart := false }
def FnExactNamedRuleSaid : Prop := fnExactNamedRuleRow.holds Try.pinned (OpenSpec.ofChange fnExactNamedRuleSpec)

/-- ITS FALSE NEIGHBOUR: 'it returns false'. Refute it at one input. -/
def fnExactNamedRuleWrong : ChangeSpec := { name := "fnExactNamedRule", fn := fun _ => fun
  | [d] => { results := [.lit (.bool false)], args := [d] }
  | _ => none }
def FnExactNamedRuleWrongFalsely : Prop := fnExactNamedRuleRow.holds Try.pinned (OpenSpec.ofChange fnExactNamedRuleWrong)

/-- 'laws.FnExactIsRule': WHATEVER THE INPUT: true; the input reads as it did. -/
def fnExactIsRuleSpec : ChangeSpec := { name := "fnExactIsRule", fn := fun _ => fun
  | [d] => { results := [.lit (.bool true)], args := [d] }
  | _ => none }
def fnExactIsRuleRow : OpenClaim := { program := "ytikfddppjalfdaa", sum := "50869522dfeef23101096b114ebdb7df849ac8a177396b5761d21ada17212967", func := "loop.example/g01141/laws.FnExactIsRule", spec := "fnExactIsRule", apart := false }
def FnExactIsRuleSaid : Prop := fnExactIsRuleRow.holds Try.pinned (OpenSpec.ofChange fnExactIsRuleSpec)

/-- ITS FALSE NEIGHBOUR: 'it returns false'. Refute it at one input. -/
def fnExactIsRuleWrong : ChangeSpec := { name := "fnExactIsRule", fn := fun _ => fun
  | [d] => { results := [.lit (.bool false)], args := [d] }
  | _ => none }
def FnExactIsRuleWrongFalsely : Prop := fnExactIsRuleRow.holds Try.pinned (OpenSpec.ofChange fnExactIsRuleWrong)

/-- 'laws.FnExactSumRuleBy': WHATEVER THE INPUT: true; the input reads as it did. -/
def fnExactSumRuleBySpec : ChangeSpec := { name := "fnExactSumRuleBy", fn := fun _ => fun
  | [d] => { results := [.lit (.bool true)], args := [d] }
  | _ => none }
def fnExactSumRuleByRow : OpenClaim := { program := "ytikfddppjalfdaa", sum := "50869522dfeef23101096b114ebdb7df849ac8a177396b5761d21ada17212967", func := "loop.example/g01141/laws.FnExactSumRuleBy", spec := "fnExactSumRuleBy", apart := false }
def FnExactSumRuleBySaid : Prop := fnExactSumRuleByRow.holds Try.pinned (OpenSpec.ofChange fnExactSumRuleBySpec)

/-- ITS FALSE NEIGHBOUR: 'it returns false'. Refute it at one input. -/
def fnExactSumRuleByWrong : ChangeSpec := { name := "fnExactSumRuleBy", fn := fun _ => fun
  | [d] => { results := [.lit (.bool false)], args := [d] }
  | _ => none }
def FnExactSumRuleByWrongFalsely : Prop := fnExactSumRuleByRow.holds Try.pinned (OpenSpec.ofChange fnExactSumRuleByWrong)

/-- 'laws.FnExactPlayThrough': WHATEVER THE INPUT: true; the input reads as it did. -/
def fnExactPlayThroughSpec : ChangeSpec := { name := "fnExactPlayThrough", fn := fun _ => fun
  | [d1, d2, d3] => { results := [.lit (.bool true)], args := [d1, d2, d3] }
  | _ => none }
def fnExactPlayThroughRow : OpenClaim := { program := "ytikfddppjalfdaa", sum := "50869522dfeef23101096b114ebdb7df849ac8a177396b5761d21ada17212967", func := "loop.example/g01141/laws.FnExactPlayThrough", spec := "fnExactPlayThrough", apart := false }
def FnExactPlayThroughSaid : Prop := fnExactPlayThroughRow.holds Try.pinned (OpenSpec.ofChange fnExactPlayThroughSpec)

/-- ITS FALSE NEIGHBOUR: 'it returns false'. Refute it at one input. -/
def fnExactPlayThroughWrong : ChangeSpec := { name := "fnExactPlayThrough", fn := fun _ => fun
  | [d1, d2, d3] => { results := [.lit (.bool false)], args := [d1, d2, d3] }
  | _ => none }
def FnExactPlayThroughWrongFalsely : Prop := fnExactPlayThroughRow.holds Try.pinned (OpenSpec.ofChange fnExactPlayThroughWrong)

/-- 'laws.FnExactFlipRule': WHATEVER THE INPUT: true; the input reads as it did. -/
def fnExactFlipRuleSpec : ChangeSpec := { name := "fnExactFlipRule", fn := fun _ => fun
  | [d] => { results := [.lit (.bool true)], args := [d] }
  | _ => none }
def fnExactFlipRuleRow : OpenClaim := { program := "ytikfddppjalfdaa", sum := "50869522dfeef23101096b114ebdb7df849ac8a177396b5761d21ada17212967", func := "loop.example/g01141/laws.FnExactFlipRule", spec := "fnExactFlipRule", apart := false }
def FnExactFlipRuleSaid : Prop := fnExactFlipRuleRow.holds Try.pinned (OpenSpec.ofChange fnExactFlipRuleSpec)

/-- ITS FALSE NEIGHBOUR: 'it returns false'. Refute it at one input. -/
def fnExactFlipRuleWrong : ChangeSpec := { name := "fnExactFlipRule", fn := fun _ => fun
  | [d] => { results := [.lit (.bool false)], args := [d] }
  | _ => none }
def FnExactFlipRuleWrongFalsely : Prop := fnExactFlipRuleRow.holds Try.pinned (OpenSpec.ofChange fnExactFlipRuleWrong)

/-- 'laws.FnExactPicks': WHATEVER THE INPUT: true; the input reads as it did. -/
def fnExactPicksSpec : ChangeSpec := { name := "fnExactPicks", fn := fun _ => fun
  | [d1, d2] => { results := [.lit (.bool true)], args := [d1, d2] }
  | _ => none }
def fnExactPicksRow : OpenClaim := { program := "ytikfddppjalfdaa", sum := "50869522dfeef23101096b114ebdb7df849ac8a177396b5761d21ada17212967", func := "loop.example/g01141/laws.FnExactPicks", spec := "fnExactPicks", apart := false }
def FnExactPicksSaid : Prop := fnExactPicksRow.holds Try.pinned (OpenSpec.ofChange fnExactPicksSpec)

/-- ITS FALSE NEIGHBOUR: 'it returns false'. Refute it at one input. -/
def fnExactPicksWrong : ChangeSpec := { name := "fnExactPicks", fn := fun _ => fun
  | [d1, d2] => { results := [.lit (.bool false)], args := [d1, d2] }
  | _ => none }
def FnExactPicksWrongFalsely : Prop := fnExactPicksRow.holds Try.pinned (OpenSpec.ofChange fnExactPicksWrong)

/-- 'laws.FnExactJoinScenes': WHATEVER THE INPUT: true; the input reads as it did. -/
def fnExactJoinScenesSpec : ChangeSpec := { name := "fnExactJoinScenes", fn := fun _ => fun
  | [d1, d2] => { results := [.lit (.bool true)], args := [d1, d2] }
  | _ => none }
def fnExactJoinScenesRow : OpenClaim := { program := "ytikfddppjalfdaa", sum := "50869522dfeef23101096b114ebdb7df849ac8a177396b5761d21ada17212967", func := "loop.example/g01141/laws.FnExactJoinScenes", spec := "fnExactJoinScenes", apart := false }
def FnExactJoinScenesSaid : Prop := fnExactJoinScenesRow.holds Try.pinned (OpenSpec.ofChange fnExactJoinScenesSpec)

/-- ITS FALSE NEIGHBOUR: 'it returns false'. Refute it at one input. -/
def fnExactJoinScenesWrong : ChangeSpec := { name := "fnExactJoinScenes", fn := fun _ => fun
  | [d1, d2] => { results := [.lit (.bool false)], args := [d1, d2] }
  | _ => none }
def FnExactJoinScenesWrongFalsely : Prop := fnExactJoinScenesRow.holds Try.pinned (OpenSpec.ofChange fnExactJoinScenesWrong)

/-- 'laws.FnExactSolvesScene': WHATEVER THE INPUT: true; the input reads as it did. -/
def fnExactSolvesSceneSpec : ChangeSpec := { name := "fnExactSolvesScene", fn := fun _ => fun
  | [d1, d2] => { results := [.lit (.bool true)], args := [d1, d2] }
  | _ => none }
def fnExactSolvesSceneRow : OpenClaim := { program := "ytikfddppjalfdaa", sum := "50869522dfeef23101096b114ebdb7df849ac8a177396b5761d21ada17212967", func := "loop.example/g01141/laws.FnExactSolvesScene", spec := "fnExactSolvesScene", apart := false }
def FnExactSolvesSceneSaid : Prop := fnExactSolvesSceneRow.holds Try.pinned (OpenSpec.ofChange fnExactSolvesSceneSpec)

/-- ITS FALSE NEIGHBOUR: 'it returns false'. Refute it at one input. -/
def fnExactSolvesSceneWrong : ChangeSpec := { name := "fnExactSolvesScene", fn := fun _ => fun
  | [d1, d2] => { results := [.lit (.bool false)], args := [d1, d2] }
  | _ => none }
def FnExactSolvesSceneWrongFalsely : Prop := fnExactSolvesSceneRow.holds Try.pinned (OpenSpec.ofChange fnExactSolvesSceneWrong)

/-- 'laws.FnExactFlipEvent': WHATEVER THE INPUT: true; the input reads as it did. -/
def fnExactFlipEventSpec : ChangeSpec := { name := "fnExactFlipEvent", fn := fun _ => fun
  | [d1, d2] => { results := [.lit (.bool true)], args := [d1, d2] }
  | _ => none }
def fnExactFlipEventRow : OpenClaim := { program := "ytikfddppjalfdaa", sum := "50869522dfeef23101096b114ebdb7df849ac8a177396b5761d21ada17212967", func := "loop.example/g01141/laws.FnExactFlipEvent", spec := "fnExactFlipEvent", apart := false }
def FnExactFlipEventSaid : Prop := fnExactFlipEventRow.holds Try.pinned (OpenSpec.ofChange fnExactFlipEventSpec)

/-- ITS FALSE NEIGHBOUR: 'it returns false'. Refute it at one input. -/
def fnExactFlipEventWrong : ChangeSpec := { name := "fnExactFlipEvent", fn := fun _ => fun
  | [d1, d2] => { results := [.lit (.bool false)], args := [d1, d2] }
  | _ => none }
def FnExactFlipEventWrongFalsely : Prop := fnExactFlipEventRow.holds Try.pinned (OpenSpec.ofChange fnExactFlipEventWrong)

/-- 'laws.FnExactKeptBy': WHATEVER THE INPUT: true; the input reads as it did. -/
def fnExactKeptBySpec : ChangeSpec := { name := "fnExactKeptBy", fn := fun _ => fun
  | [d1, d2] => { results := [.lit (.bool true)], args := [d1, d2] }
  | _ => none }
def fnExactKeptByRow : OpenClaim := { program := "ytikfddppjalfdaa", sum := "50869522dfeef23101096b114ebdb7df849ac8a177396b5761d21ada17212967", func := "loop.example/g01141/laws.FnExactKeptBy", spec := "fnExactKeptBy", apart := false }
def FnExactKeptBySaid : Prop := fnExactKeptByRow.holds Try.pinned (OpenSpec.ofChange fnExactKeptBySpec)

/-- ITS FALSE NEIGHBOUR: 'it returns false'. Refute it at one input. -/
def fnExactKeptByWrong : ChangeSpec := { name := "fnExactKeptBy", fn := fun _ => fun
  | [d1, d2] => { results := [.lit (.bool false)], args := [d1, d2] }
  | _ => none }
def FnExactKeptByWrongFalsely : Prop := fnExactKeptByRow.holds Try.pinned (OpenSpec.ofChange fnExactKeptByWrong)

/-- 'laws.FnExactCountPicks': WHATEVER THE INPUT: true; the input reads as it did. -/
def fnExactCountPicksSpec : ChangeSpec := { name := "fnExactCountPicks", fn := fun _ => fun
  | [d] => { results := [.lit (.bool true)], args := [d] }
  | _ => none }
def fnExactCountPicksRow : OpenClaim := { program := "ytikfddppjalfdaa", sum := "50869522dfeef23101096b114ebdb7df849ac8a177396b5761d21ada17212967", func := "loop.example/g01141/laws.FnExactCountPicks", spec := "fnExactCountPicks", unfollowed := true, recurses := true, apart := false }
def FnExactCountPicksSaid : Prop := fnExactCountPicksRow.holds Try.pinned (OpenSpec.ofChange fnExactCountPicksSpec)

/-- ITS FALSE NEIGHBOUR: 'it returns false'. Refute it at one input. -/
def fnExactCountPicksWrong : ChangeSpec := { name := "fnExactCountPicks", fn := fun _ => fun
  | [d] => { results := [.lit (.bool false)], args := [d] }
  | _ => none }
def FnExactCountPicksWrongFalsely : Prop := fnExactCountPicksRow.holds Try.pinned (OpenSpec.ofChange fnExactCountPicksWrong)

/-- 'laws.FnExactCountSolutions': WHATEVER THE INPUT: true; the input reads as it did. -/
def fnExactCountSolutionsSpec : ChangeSpec := { name := "fnExactCountSolutions", fn := fun _ => fun
  | [d] => { results := [.lit (.bool true)], args := [d] }
  | _ => none }
def fnExactCountSolutionsRow : OpenClaim := { program := "ytikfddppjalfdaa", sum := "50869522dfeef23101096b114ebdb7df849ac8a177396b5761d21ada17212967", func := "loop.example/g01141/laws.FnExactCountSolutions", spec := "fnExactCountSolutions", unfollowed := true, recurses := true, apart := false }
def FnExactCountSolutionsSaid : Prop := fnExactCountSolutionsRow.holds Try.pinned (OpenSpec.ofChange fnExactCountSolutionsSpec)

/-- ITS FALSE NEIGHBOUR: 'it returns false'. Refute it at one input. -/
def fnExactCountSolutionsWrong : ChangeSpec := { name := "fnExactCountSolutions", fn := fun _ => fun
  | [d] => { results := [.lit (.bool false)], args := [d] }
  | _ => none }
def FnExactCountSolutionsWrongFalsely : Prop := fnExactCountSolutionsRow.holds Try.pinned (OpenSpec.ofChange fnExactCountSolutionsWrong)

/-- 'laws.FnExactMostKept': WHATEVER THE INPUT: true; the input reads as it did. -/
def fnExactMostKeptSpec : ChangeSpec := { name := "fnExactMostKept", fn := fun _ => fun
  | [d] => { results := [.lit (.bool true)], args := [d] }
  | _ => none }
def fnExactMostKeptRow : OpenClaim := { program := "ytikfddppjalfdaa", sum := "50869522dfeef23101096b114ebdb7df849ac8a177396b5761d21ada17212967", func := "loop.example/g01141/laws.FnExactMostKept", spec := "fnExactMostKept", apart := false }
def FnExactMostKeptSaid : Prop := fnExactMostKeptRow.holds Try.pinned (OpenSpec.ofChange fnExactMostKeptSpec)

/-- ITS FALSE NEIGHBOUR: 'it returns false'. Refute it at one input. -/
def fnExactMostKeptWrong : ChangeSpec := { name := "fnExactMostKept", fn := fun _ => fun
  | [d] => { results := [.lit (.bool false)], args := [d] }
  | _ => none }
def FnExactMostKeptWrongFalsely : Prop := fnExactMostKeptRow.holds Try.pinned (OpenSpec.ofChange fnExactMostKeptWrong)

/-- 'laws.FnExactFirstPick': WHATEVER THE INPUT: true; the input reads as it did. -/
def fnExactFirstPickSpec : ChangeSpec := { name := "fnExactFirstPick", fn := fun _ => fun
  | [d] => { results := [.lit (.bool true)], args := [d] }
  | _ => none }
def fnExactFirstPickRow : OpenClaim := { program := "ytikfddppjalfdaa", sum := "50869522dfeef23101096b114ebdb7df849ac8a177396b5761d21ada17212967", func := "loop.example/g01141/laws.FnExactFirstPick", spec := "fnExactFirstPick", unfollowed := true, recurses := true, apart := false }
def FnExactFirstPickSaid : Prop := fnExactFirstPickRow.holds Try.pinned (OpenSpec.ofChange fnExactFirstPickSpec)

/-- ITS FALSE NEIGHBOUR: 'it returns false'. Refute it at one input. -/
def fnExactFirstPickWrong : ChangeSpec := { name := "fnExactFirstPick", fn := fun _ => fun
  | [d] => { results := [.lit (.bool false)], args := [d] }
  | _ => none }
def FnExactFirstPickWrongFalsely : Prop := fnExactFirstPickRow.holds Try.pinned (OpenSpec.ofChange fnExactFirstPickWrong)

/-- 'laws.FnExactFindParityProof': WHATEVER THE INPUT: true; the input reads as it did. -/
def fnExactFindParityProofSpec : ChangeSpec := { name := "fnExactFindParityProof", fn := fun _ => fun
  | [d] => { results := [.lit (.bool true)], args := [d] }
  | _ => none }
def fnExactFindParityProofRow : OpenClaim := { program := "ytikfddppjalfdaa", sum := "50869522dfeef23101096b114ebdb7df849ac8a177396b5761d21ada17212967", func := "loop.example/g01141/laws.FnExactFindParityProof", spec := "fnExactFindParityProof", apart := false }
def FnExactFindParityProofSaid : Prop := fnExactFindParityProofRow.holds Try.pinned (OpenSpec.ofChange fnExactFindParityProofSpec)

/-- ITS FALSE NEIGHBOUR: 'it returns false'. Refute it at one input. -/
def fnExactFindParityProofWrong : ChangeSpec := { name := "fnExactFindParityProof", fn := fun _ => fun
  | [d] => { results := [.lit (.bool false)], args := [d] }
  | _ => none }
def FnExactFindParityProofWrongFalsely : Prop := fnExactFindParityProofRow.holds Try.pinned (OpenSpec.ofChange fnExactFindParityProofWrong)

/-- 'laws.FnExactFirstSolution': WHATEVER THE INPUT: true; the input reads as it did. -/
def fnExactFirstSolutionSpec : ChangeSpec := { name := "fnExactFirstSolution", fn := fun _ => fun
  | [d] => { results := [.lit (.bool true)], args := [d] }
  | _ => none }
def fnExactFirstSolutionRow : OpenClaim := { program := "ytikfddppjalfdaa", sum := "50869522dfeef23101096b114ebdb7df849ac8a177396b5761d21ada17212967", func := "loop.example/g01141/laws.FnExactFirstSolution", spec := "fnExactFirstSolution", unfollowed := true, recurses := true, apart := false }
def FnExactFirstSolutionSaid : Prop := fnExactFirstSolutionRow.holds Try.pinned (OpenSpec.ofChange fnExactFirstSolutionSpec)

/-- ITS FALSE NEIGHBOUR: 'it returns false'. Refute it at one input. -/
def fnExactFirstSolutionWrong : ChangeSpec := { name := "fnExactFirstSolution", fn := fun _ => fun
  | [d] => { results := [.lit (.bool false)], args := [d] }
  | _ => none }
def FnExactFirstSolutionWrongFalsely : Prop := fnExactFirstSolutionRow.holds Try.pinned (OpenSpec.ofChange fnExactFirstSolutionWrong)

/- THE SECOND FORM. 'bulk': how many values and letters a reading holds, each counted each time it is reached (what is shared counts as often as it is met; a slice's spare places count too). A statement '..UptoSaid' is the law's where the arguments, and the package variables that the reading takes, are together of bulk at most 1048576: NARROWER than '..Said'. Prove '..Said' where nothing that the law and all that it calls make is longer than what came in: it says more and counts as full. Else prove '..UptoSaid'. A law counts once. -/
mutual
def uptoBulk {H : Type} : DataW H → Nat
  | .lit (.string bytes) => bytes.length + 1
  | .lit _ => 1
  | .nil => 1
  | .ptr d => uptoBulk d + 1
  | .slice elems spare => uptoBulkAll elems + uptoBulkAll spare + 1
  | .agg parts => uptoBulkAll parts + 1
  | .iface _ d => uptoBulk d + 1
  | .map entries => uptoBulkEntries entries + 1
  | .held _ => 1
def uptoBulkAll {H : Type} : List (DataW H) → Nat
  | [] => 0
  | d :: r => uptoBulk d + uptoBulkAll r
def uptoBulkEntries {H : Type} : List (Lit × DataW H) → Nat
  | [] => 0
  | x :: r => uptoBulkEntry x + uptoBulkEntries r
def uptoBulkEntry {H : Type} : Lit × DataW H → Nat
  | (.string bytes, d) => bytes.length + uptoBulk d + 1
  | (_, d) => uptoBulk d + 1
 end
def uptoSmall : (H : Type) → List (DataW H) → Bool := fun _ ds => decide (uptoBulkAll ds ≤ 1048576)
def OpenSpec.upto (s : _root_.Go.ChangeSpec) : _root_.Go.OpenSpec := { _root_.Go.OpenSpec.ofChange s with cond := some uptoSmall }

/-- 'laws.FnExactNamedRule', WHERE WHAT IT READS IS OF BULK AT MOST 1048576: true; the input reads as it did. -/
def fnExactNamedRuleUptoRow : OpenClaim := { program := "ytikfddppjalfdaa", sum := "50869522dfeef23101096b114ebdb7df849ac8a177396b5761d21ada17212967", func := "loop.example/g01141/laws.FnExactNamedRule", spec := "fnExactNamedRule", apart := false, narrowed := true }
def FnExactNamedRuleUptoSaid : Prop := fnExactNamedRuleUptoRow.holds Try.pinned (OpenSpec.upto fnExactNamedRuleSpec)

/-- 'laws.FnExactIsRule', WHERE WHAT IT READS IS OF BULK AT MOST 1048576: true; the input reads as it did. -/
def fnExactIsRuleUptoRow : OpenClaim := { program := "ytikfddppjalfdaa", sum := "50869522dfeef23101096b114ebdb7df849ac8a177396b5761d21ada17212967", func := "loop.example/g01141/laws.FnExactIsRule", spec := "fnExactIsRule", apart := false, narrowed := true }
def FnExactIsRuleUptoSaid : Prop := fnExactIsRuleUptoRow.holds Try.pinned (OpenSpec.upto fnExactIsRuleSpec)

/-- 'laws.FnExactSumRuleBy', WHERE WHAT IT READS IS OF BULK AT MOST 1048576: true; the input reads as it did. -/
def fnExactSumRuleByUptoRow : OpenClaim := { program := "ytikfddppjalfdaa", sum := "50869522dfeef23101096b114ebdb7df849ac8a177396b5761d21ada17212967", func := "loop.example/g01141/laws.FnExactSumRuleBy", spec := "fnExactSumRuleBy", apart := false, narrowed := true }
def FnExactSumRuleByUptoSaid : Prop := fnExactSumRuleByUptoRow.holds Try.pinned (OpenSpec.upto fnExactSumRuleBySpec)

/-- 'laws.FnExactPlayThrough', WHERE WHAT IT READS IS OF BULK AT MOST 1048576: true; the input reads as it did. -/
def fnExactPlayThroughUptoRow : OpenClaim := { program := "ytikfddppjalfdaa", sum := "50869522dfeef23101096b114ebdb7df849ac8a177396b5761d21ada17212967", func := "loop.example/g01141/laws.FnExactPlayThrough", spec := "fnExactPlayThrough", apart := false, narrowed := true }
def FnExactPlayThroughUptoSaid : Prop := fnExactPlayThroughUptoRow.holds Try.pinned (OpenSpec.upto fnExactPlayThroughSpec)

/-- 'laws.FnExactFlipRule', WHERE WHAT IT READS IS OF BULK AT MOST 1048576: true; the input reads as it did. -/
def fnExactFlipRuleUptoRow : OpenClaim := { program := "ytikfddppjalfdaa", sum := "50869522dfeef23101096b114ebdb7df849ac8a177396b5761d21ada17212967", func := "loop.example/g01141/laws.FnExactFlipRule", spec := "fnExactFlipRule", apart := false, narrowed := true }
def FnExactFlipRuleUptoSaid : Prop := fnExactFlipRuleUptoRow.holds Try.pinned (OpenSpec.upto fnExactFlipRuleSpec)

/-- 'laws.FnExactPicks', WHERE WHAT IT READS IS OF BULK AT MOST 1048576: true; the input reads as it did. -/
def fnExactPicksUptoRow : OpenClaim := { program := "ytikfddppjalfdaa", sum := "50869522dfeef23101096b114ebdb7df849ac8a177396b5761d21ada17212967", func := "loop.example/g01141/laws.FnExactPicks", spec := "fnExactPicks", apart := false, narrowed := true }
def FnExactPicksUptoSaid : Prop := fnExactPicksUptoRow.holds Try.pinned (OpenSpec.upto fnExactPicksSpec)

/-- 'laws.FnExactJoinScenes', WHERE WHAT IT READS IS OF BULK AT MOST 1048576: true; the input reads as it did. -/
def fnExactJoinScenesUptoRow : OpenClaim := { program := "ytikfddppjalfdaa", sum := "50869522dfeef23101096b114ebdb7df849ac8a177396b5761d21ada17212967", func := "loop.example/g01141/laws.FnExactJoinScenes", spec := "fnExactJoinScenes", apart := false, narrowed := true }
def FnExactJoinScenesUptoSaid : Prop := fnExactJoinScenesUptoRow.holds Try.pinned (OpenSpec.upto fnExactJoinScenesSpec)

/-- 'laws.FnExactSolvesScene', WHERE WHAT IT READS IS OF BULK AT MOST 1048576: true; the input reads as it did. -/
def fnExactSolvesSceneUptoRow : OpenClaim := { program := "ytikfddppjalfdaa", sum := "50869522dfeef23101096b114ebdb7df849ac8a177396b5761d21ada17212967", func := "loop.example/g01141/laws.FnExactSolvesScene", spec := "fnExactSolvesScene", apart := false, narrowed := true }
def FnExactSolvesSceneUptoSaid : Prop := fnExactSolvesSceneUptoRow.holds Try.pinned (OpenSpec.upto fnExactSolvesSceneSpec)

/-- 'laws.FnExactFlipEvent', WHERE WHAT IT READS IS OF BULK AT MOST 1048576: true; the input reads as it did. -/
def fnExactFlipEventUptoRow : OpenClaim := { program := "ytikfddppjalfdaa", sum := "50869522dfeef23101096b114ebdb7df849ac8a177396b5761d21ada17212967", func := "loop.example/g01141/laws.FnExactFlipEvent", spec := "fnExactFlipEvent", apart := false, narrowed := true }
def FnExactFlipEventUptoSaid : Prop := fnExactFlipEventUptoRow.holds Try.pinned (OpenSpec.upto fnExactFlipEventSpec)

/-- 'laws.FnExactKeptBy', WHERE WHAT IT READS IS OF BULK AT MOST 1048576: true; the input reads as it did. -/
def fnExactKeptByUptoRow : OpenClaim := { program := "ytikfddppjalfdaa", sum := "50869522dfeef23101096b114ebdb7df849ac8a177396b5761d21ada17212967", func := "loop.example/g01141/laws.FnExactKeptBy", spec := "fnExactKeptBy", apart := false, narrowed := true }
def FnExactKeptByUptoSaid : Prop := fnExactKeptByUptoRow.holds Try.pinned (OpenSpec.upto fnExactKeptBySpec)

/-- 'laws.FnExactCountPicks', WHERE WHAT IT READS IS OF BULK AT MOST 1048576: true; the input reads as it did. -/
def fnExactCountPicksUptoRow : OpenClaim := { program := "ytikfddppjalfdaa", sum := "50869522dfeef23101096b114ebdb7df849ac8a177396b5761d21ada17212967", func := "loop.example/g01141/laws.FnExactCountPicks", spec := "fnExactCountPicks", unfollowed := true, recurses := true, apart := false, narrowed := true }
def FnExactCountPicksUptoSaid : Prop := fnExactCountPicksUptoRow.holds Try.pinned (OpenSpec.upto fnExactCountPicksSpec)

/-- 'laws.FnExactCountSolutions', WHERE WHAT IT READS IS OF BULK AT MOST 1048576: true; the input reads as it did. -/
def fnExactCountSolutionsUptoRow : OpenClaim := { program := "ytikfddppjalfdaa", sum := "50869522dfeef23101096b114ebdb7df849ac8a177396b5761d21ada17212967", func := "loop.example/g01141/laws.FnExactCountSolutions", spec := "fnExactCountSolutions", unfollowed := true, recurses := true, apart := false, narrowed := true }
def FnExactCountSolutionsUptoSaid : Prop := fnExactCountSolutionsUptoRow.holds Try.pinned (OpenSpec.upto fnExactCountSolutionsSpec)

/-- 'laws.FnExactMostKept', WHERE WHAT IT READS IS OF BULK AT MOST 1048576: true; the input reads as it did. -/
def fnExactMostKeptUptoRow : OpenClaim := { program := "ytikfddppjalfdaa", sum := "50869522dfeef23101096b114ebdb7df849ac8a177396b5761d21ada17212967", func := "loop.example/g01141/laws.FnExactMostKept", spec := "fnExactMostKept", apart := false, narrowed := true }
def FnExactMostKeptUptoSaid : Prop := fnExactMostKeptUptoRow.holds Try.pinned (OpenSpec.upto fnExactMostKeptSpec)

/-- 'laws.FnExactFirstPick', WHERE WHAT IT READS IS OF BULK AT MOST 1048576: true; the input reads as it did. -/
def fnExactFirstPickUptoRow : OpenClaim := { program := "ytikfddppjalfdaa", sum := "50869522dfeef23101096b114ebdb7df849ac8a177396b5761d21ada17212967", func := "loop.example/g01141/laws.FnExactFirstPick", spec := "fnExactFirstPick", unfollowed := true, recurses := true, apart := false, narrowed := true }
def FnExactFirstPickUptoSaid : Prop := fnExactFirstPickUptoRow.holds Try.pinned (OpenSpec.upto fnExactFirstPickSpec)

/-- 'laws.FnExactFindParityProof', WHERE WHAT IT READS IS OF BULK AT MOST 1048576: true; the input reads as it did. -/
def fnExactFindParityProofUptoRow : OpenClaim := { program := "ytikfddppjalfdaa", sum := "50869522dfeef23101096b114ebdb7df849ac8a177396b5761d21ada17212967", func := "loop.example/g01141/laws.FnExactFindParityProof", spec := "fnExactFindParityProof", apart := false, narrowed := true }
def FnExactFindParityProofUptoSaid : Prop := fnExactFindParityProofUptoRow.holds Try.pinned (OpenSpec.upto fnExactFindParityProofSpec)

/-- 'laws.FnExactFirstSolution', WHERE WHAT IT READS IS OF BULK AT MOST 1048576: true; the input reads as it did. -/
def fnExactFirstSolutionUptoRow : OpenClaim := { program := "ytikfddppjalfdaa", sum := "50869522dfeef23101096b114ebdb7df849ac8a177396b5761d21ada17212967", func := "loop.example/g01141/laws.FnExactFirstSolution", spec := "fnExactFirstSolution", unfollowed := true, recurses := true, apart := false, narrowed := true }
def FnExactFirstSolutionUptoSaid : Prop := fnExactFirstSolutionUptoRow.holds Try.pinned (OpenSpec.upto fnExactFirstSolutionSpec)

end Rows
end Go.Proofs.Ytikfddppjalfdaa
