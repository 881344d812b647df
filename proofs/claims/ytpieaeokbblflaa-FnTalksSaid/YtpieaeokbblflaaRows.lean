/-
  No cell of these rows narrows 'for every input' (looked for: loops, veiled, ifaces, maps, wideKeys, modest, calm, conditions, laid).
  DERIVED. THE GIVEN ROWS OF THIS SEAT. 7 by the template 'for every input the law returns true; each argument reads behind the call as it read before'; 0 by the template 'total and deterministic' (their statements: YtpieaeokbblflaaTotals.lean).
  GIVEN WITH THE SEED: the statements are not yours to turn. If you find one false, say at which input.
  Laid BY PROGRAM, IN A SANDBOX (cutbox-rows.mjs): the forced cells as the released guide's own fill.sh prints them over the translation a9713ac8c58401f2… (all of the seat's roots in one cut). By AI agents, Wed Nov 11 2026. No macro, syntax, notation, axiom, sorry.
-/
import Derived.Test.YtpieaeokbblflaaChecked
import GoSem.Claim
import GoSem.ClaimJoined
import GoSem.ClaimMapViews
import Derived.JoinedTies
import Derived.KernelRfl
namespace Go.Proofs.Ytpieaeokbblflaa
/- THE CELL 'sum', in the pinned program and in every row, IS THE sha256 OF THE DUMP (.gsa) THAT YtpieaeokbblflaaProg.lean LOADS. Nothing in Lean hashes anything: it is a label: what it is worth is what the hold of that sum in a sandbox is worth. -/
noncomputable def Try.pinned : Pinned := { name := "ytpieaeokbblflaa", sum := "a9713ac8c58401f209a2a64718e34f7c9e2686cd9ee4f924e643cbe5583c6a93", checked := Try.checked }
namespace Rows
def none {H : Type} : Left H := { results := [], args := [] }

/-- 'laws.FnExactNeedOf': WHATEVER THE INPUT: true; the input reads as it did. -/
def fnExactNeedOfSpec : ChangeSpec := { name := "fnExactNeedOf", fn := fun _ => fun
  | [d] => { results := [.lit (.bool true)], args := [d] }
  | _ => none }
def fnExactNeedOfRow : OpenClaim := { program := "ytpieaeokbblflaa", sum := "a9713ac8c58401f209a2a64718e34f7c9e2686cd9ee4f924e643cbe5583c6a93", func := "loop.example/g01141/laws.FnExactNeedOf", spec := "fnExactNeedOf", recurses := true, plainKeys := false, apart := false }
def FnExactNeedOfSaid : Prop := fnExactNeedOfRow.holds Try.pinned (OpenSpec.ofChange fnExactNeedOfSpec)

/-- ITS FALSE NEIGHBOUR: 'it returns false'. Refute it at one input. -/
def fnExactNeedOfWrong : ChangeSpec := { name := "fnExactNeedOf", fn := fun _ => fun
  | [d] => { results := [.lit (.bool false)], args := [d] }
  | _ => none }
def FnExactNeedOfWrongFalsely : Prop := fnExactNeedOfRow.holds Try.pinned (OpenSpec.ofChange fnExactNeedOfWrong)

/-- 'laws.FnExactCoverNumber': WHATEVER THE INPUT: true; the input reads as it did. -/
def fnExactCoverNumberSpec : ChangeSpec := { name := "fnExactCoverNumber", fn := fun _ => fun
  | [d1, d2] => { results := [.lit (.bool true)], args := [d1, d2] }
  | _ => none }
def fnExactCoverNumberRow : OpenClaim := { program := "ytpieaeokbblflaa", sum := "a9713ac8c58401f209a2a64718e34f7c9e2686cd9ee4f924e643cbe5583c6a93", func := "loop.example/g01141/laws.FnExactCoverNumber", spec := "fnExactCoverNumber", unfollowed := true, recurses := true, plainKeys := false, apart := false }
def FnExactCoverNumberSaid : Prop := fnExactCoverNumberRow.holds Try.pinned (OpenSpec.ofChange fnExactCoverNumberSpec)

/-- ITS FALSE NEIGHBOUR: 'it returns false'. Refute it at one input. -/
def fnExactCoverNumberWrong : ChangeSpec := { name := "fnExactCoverNumber", fn := fun _ => fun
  | [d1, d2] => { results := [.lit (.bool false)], args := [d1, d2] }
  | _ => none }
def FnExactCoverNumberWrongFalsely : Prop := fnExactCoverNumberRow.holds Try.pinned (OpenSpec.ofChange fnExactCoverNumberWrong)

/-- 'laws.FnExactFirstSplit': WHATEVER THE INPUT: true; the input reads as it did. -/
def fnExactFirstSplitSpec : ChangeSpec := { name := "fnExactFirstSplit", fn := fun _ => fun
  | [d] => { results := [.lit (.bool true)], args := [d] }
  | _ => none }
def fnExactFirstSplitRow : OpenClaim := { program := "ytpieaeokbblflaa", sum := "a9713ac8c58401f209a2a64718e34f7c9e2686cd9ee4f924e643cbe5583c6a93", func := "loop.example/g01141/laws.FnExactFirstSplit", spec := "fnExactFirstSplit", recurses := true, plainKeys := false, apart := false }
def FnExactFirstSplitSaid : Prop := fnExactFirstSplitRow.holds Try.pinned (OpenSpec.ofChange fnExactFirstSplitSpec)

/-- ITS FALSE NEIGHBOUR: 'it returns false'. Refute it at one input. -/
def fnExactFirstSplitWrong : ChangeSpec := { name := "fnExactFirstSplit", fn := fun _ => fun
  | [d] => { results := [.lit (.bool false)], args := [d] }
  | _ => none }
def FnExactFirstSplitWrongFalsely : Prop := fnExactFirstSplitRow.holds Try.pinned (OpenSpec.ofChange fnExactFirstSplitWrong)

/-- 'laws.FnExactBestTalk': WHATEVER THE INPUT: true; the input reads as it did. -/
def fnExactBestTalkSpec : ChangeSpec := { name := "fnExactBestTalk", fn := fun _ => fun
  | [d] => { results := [.lit (.bool true)], args := [d] }
  | _ => none }
def fnExactBestTalkRow : OpenClaim := { program := "ytpieaeokbblflaa", sum := "a9713ac8c58401f209a2a64718e34f7c9e2686cd9ee4f924e643cbe5583c6a93", func := "loop.example/g01141/laws.FnExactBestTalk", spec := "fnExactBestTalk", recurses := true, plainKeys := false, apart := false }
def FnExactBestTalkSaid : Prop := fnExactBestTalkRow.holds Try.pinned (OpenSpec.ofChange fnExactBestTalkSpec)

/-- ITS FALSE NEIGHBOUR: 'it returns false'. Refute it at one input. -/
def fnExactBestTalkWrong : ChangeSpec := { name := "fnExactBestTalk", fn := fun _ => fun
  | [d] => { results := [.lit (.bool false)], args := [d] }
  | _ => none }
def FnExactBestTalkWrongFalsely : Prop := fnExactBestTalkRow.holds Try.pinned (OpenSpec.ofChange fnExactBestTalkWrong)

/-- 'laws.FnTalkGames': WHATEVER THE INPUT: true; the input reads as it did. -/
def fnTalkGamesSpec : ChangeSpec := { name := "fnTalkGames", fn := fun _ => fun
  | [d] => { results := [.lit (.bool true)], args := [d] }
  | _ => none }
def fnTalkGamesRow : OpenClaim := { program := "ytpieaeokbblflaa", sum := "a9713ac8c58401f209a2a64718e34f7c9e2686cd9ee4f924e643cbe5583c6a93", func := "loop.example/g01141/laws.FnTalkGames", spec := "fnTalkGames", plainKeys := false, apart := false }
def FnTalkGamesSaid : Prop := fnTalkGamesRow.holds Try.pinned (OpenSpec.ofChange fnTalkGamesSpec)

/-- ITS FALSE NEIGHBOUR: 'it returns false'. Refute it at one input. -/
def fnTalkGamesWrong : ChangeSpec := { name := "fnTalkGames", fn := fun _ => fun
  | [d] => { results := [.lit (.bool false)], args := [d] }
  | _ => none }
def FnTalkGamesWrongFalsely : Prop := fnTalkGamesRow.holds Try.pinned (OpenSpec.ofChange fnTalkGamesWrong)

/-- 'laws.FnTalks': WHATEVER THE INPUT: true; the input reads as it did. -/
def fnTalksSpec : ChangeSpec := { name := "fnTalks", fn := fun _ => fun
  | [d] => { results := [.lit (.bool true)], args := [d] }
  | _ => none }
def fnTalksRow : OpenClaim := { program := "ytpieaeokbblflaa", sum := "a9713ac8c58401f209a2a64718e34f7c9e2686cd9ee4f924e643cbe5583c6a93", func := "loop.example/g01141/laws.FnTalks", spec := "fnTalks", recurses := true, plainKeys := false, apart := false }
def FnTalksSaid : Prop := fnTalksRow.holds Try.pinned (OpenSpec.ofChange fnTalksSpec)

/-- ITS FALSE NEIGHBOUR: 'it returns false'. Refute it at one input. -/
def fnTalksWrong : ChangeSpec := { name := "fnTalks", fn := fun _ => fun
  | [d] => { results := [.lit (.bool false)], args := [d] }
  | _ => none }
def FnTalksWrongFalsely : Prop := fnTalksRow.holds Try.pinned (OpenSpec.ofChange fnTalksWrong)

/-- 'laws.FnRectangles': WHATEVER THE INPUT: true; the input reads as it did. -/
def fnRectanglesSpec : ChangeSpec := { name := "fnRectangles", fn := fun _ => fun
  | [d] => { results := [.lit (.bool true)], args := [d] }
  | _ => none }
def fnRectanglesRow : OpenClaim := { program := "ytpieaeokbblflaa", sum := "a9713ac8c58401f209a2a64718e34f7c9e2686cd9ee4f924e643cbe5583c6a93", func := "loop.example/g01141/laws.FnRectangles", spec := "fnRectangles", unfollowed := true, recurses := true, plainKeys := false, apart := false }
def FnRectanglesSaid : Prop := fnRectanglesRow.holds Try.pinned (OpenSpec.ofChange fnRectanglesSpec)

/-- ITS FALSE NEIGHBOUR: 'it returns false'. Refute it at one input. -/
def fnRectanglesWrong : ChangeSpec := { name := "fnRectangles", fn := fun _ => fun
  | [d] => { results := [.lit (.bool false)], args := [d] }
  | _ => none }
def FnRectanglesWrongFalsely : Prop := fnRectanglesRow.holds Try.pinned (OpenSpec.ofChange fnRectanglesWrong)

/- THE SECOND FORM. 'bulk': how many values and letters a reading holds, each counted each time it is reached (what is shared counts as often as it is met; a slice's spare places count too). A statement '..UptoSaid' is the law's where the arguments, and the package variables that the reading takes, are together of bulk at most 1048576: NARROWER than '..Said'. Prove '..Said' where nothing that the law and all that it calls make is longer than what came in: it says more and counts as full. Else prove '..UptoSaid'. A law counts once. -/
mutual
def uptoBulk {H : Type} : DataW H → Nat
  | .lit (.string bytes) => bytes.length + 1
  | .lit _ => 1
  | .nil => 1
  | .ptr d => uptoBulk d + 1
  | .slice elems spare => uptoBulkAll elems + uptoBulkAll spare + 1
  | .agg parts => uptoBulkAll parts + 1
  | .iface _ d => uptoBulk d + 1
  | .map entries => uptoBulkEntries entries + 1
  | .held _ => 1
def uptoBulkAll {H : Type} : List (DataW H) → Nat
  | [] => 0
  | d :: r => uptoBulk d + uptoBulkAll r
def uptoBulkEntries {H : Type} : List (Lit × DataW H) → Nat
  | [] => 0
  | x :: r => uptoBulkEntry x + uptoBulkEntries r
def uptoBulkEntry {H : Type} : Lit × DataW H → Nat
  | (.string bytes, d) => bytes.length + uptoBulk d + 1
  | (_, d) => uptoBulk d + 1
 end
def uptoSmall : (H : Type) → List (DataW H) → Bool := fun _ ds => decide (uptoBulkAll ds ≤ 1048576)
def OpenSpec.upto (s : _root_.Go.ChangeSpec) : _root_.Go.OpenSpec := { _root_.Go.OpenSpec.ofChange s with cond := some uptoSmall }

/-- 'laws.FnExactNeedOf', WHERE WHAT IT READS IS OF BULK AT MOST 1048576: true; the input reads as it did. -/
def fnExactNeedOfUptoRow : OpenClaim := { program := "ytpieaeokbblflaa", sum := "a9713ac8c58401f209a2a64718e34f7c9e2686cd9ee4f924e643cbe5583c6a93", func := "loop.example/g01141/laws.FnExactNeedOf", spec := "fnExactNeedOf", recurses := true, plainKeys := false, apart := false, narrowed := true }
def FnExactNeedOfUptoSaid : Prop := fnExactNeedOfUptoRow.holds Try.pinned (OpenSpec.upto fnExactNeedOfSpec)

/-- 'laws.FnExactCoverNumber', WHERE WHAT IT READS IS OF BULK AT MOST 1048576: true; the input reads as it did. -/
def fnExactCoverNumberUptoRow : OpenClaim := { program := "ytpieaeokbblflaa", sum := "a9713ac8c58401f209a2a64718e34f7c9e2686cd9ee4f924e643cbe5583c6a93", func := "loop.example/g01141/laws.FnExactCoverNumber", spec := "fnExactCoverNumber", unfollowed := true, recurses := true, plainKeys := false, apart := false, narrowed := true }
def FnExactCoverNumberUptoSaid : Prop := fnExactCoverNumberUptoRow.holds Try.pinned (OpenSpec.upto fnExactCoverNumberSpec)

/-- 'laws.FnExactFirstSplit', WHERE WHAT IT READS IS OF BULK AT MOST 1048576: true; the input reads as it did. -/
def fnExactFirstSplitUptoRow : OpenClaim := { program := "ytpieaeokbblflaa", sum := "a9713ac8c58401f209a2a64718e34f7c9e2686cd9ee4f924e643cbe5583c6a93", func := "loop.example/g01141/laws.FnExactFirstSplit", spec := "fnExactFirstSplit", recurses := true, plainKeys := false, apart := false, narrowed := true }
def FnExactFirstSplitUptoSaid : Prop := fnExactFirstSplitUptoRow.holds Try.pinned (OpenSpec.upto fnExactFirstSplitSpec)

/-- 'laws.FnExactBestTalk', WHERE WHAT IT READS IS OF BULK AT MOST 1048576: true; the input reads as it did. -/
def fnExactBestTalkUptoRow : OpenClaim := { program := "ytpieaeokbblflaa", sum := "a9713ac8c58401f209a2a64718e34f7c9e2686cd9ee4f924e643cbe5583c6a93", func := "loop.example/g01141/laws.FnExactBestTalk", spec := "fnExactBestTalk", recurses := true, plainKeys := false, apart := false, narrowed := true }
def FnExactBestTalkUptoSaid : Prop := fnExactBestTalkUptoRow.holds Try.pinned (OpenSpec.upto fnExactBestTalkSpec)

/-- 'laws.FnTalkGames', WHERE WHAT IT READS IS OF BULK AT MOST 1048576: true; the input reads as it did. -/
def fnTalkGamesUptoRow : OpenClaim := { program := "ytpieaeokbblflaa", sum := "a9713ac8c58401f209a2a64718e34f7c9e2686cd9ee4f924e643cbe5583c6a93", func := "loop.example/g01141/laws.FnTalkGames", spec := "fnTalkGames", plainKeys := false, apart := false, narrowed := true }
def FnTalkGamesUptoSaid : Prop := fnTalkGamesUptoRow.holds Try.pinned (OpenSpec.upto fnTalkGamesSpec)

/-- 'laws.FnTalks', WHERE WHAT IT READS IS OF BULK AT MOST 1048576: true; the input reads as it did. -/
def fnTalksUptoRow : OpenClaim := { program := "ytpieaeokbblflaa", sum := "a9713ac8c58401f209a2a64718e34f7c9e2686cd9ee4f924e643cbe5583c6a93", func := "loop.example/g01141/laws.FnTalks", spec := "fnTalks", recurses := true, plainKeys := false, apart := false, narrowed := true }
def FnTalksUptoSaid : Prop := fnTalksUptoRow.holds Try.pinned (OpenSpec.upto fnTalksSpec)

/-- 'laws.FnRectangles', WHERE WHAT IT READS IS OF BULK AT MOST 1048576: true; the input reads as it did. -/
def fnRectanglesUptoRow : OpenClaim := { program := "ytpieaeokbblflaa", sum := "a9713ac8c58401f209a2a64718e34f7c9e2686cd9ee4f924e643cbe5583c6a93", func := "loop.example/g01141/laws.FnRectangles", spec := "fnRectangles", unfollowed := true, recurses := true, plainKeys := false, apart := false, narrowed := true }
def FnRectanglesUptoSaid : Prop := fnRectanglesUptoRow.holds Try.pinned (OpenSpec.upto fnRectanglesSpec)

end Rows
end Go.Proofs.Ytpieaeokbblflaa
