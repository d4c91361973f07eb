/-
  No cell of these rows narrows 'for every input' (looked for: loops, veiled, ifaces, maps, wideKeys, modest, calm, conditions, laid).
  DERIVED. THE GIVEN ROWS OF THIS SEAT. 6 by the template 'for every input the law returns true; each argument reads behind the call as it read before'; 0 by the template 'total and deterministic' (their statements: YtoipnooncnpndaaTotals.lean).
  GIVEN WITH THE SEED: the statements are not yours to turn. If you find one false, say at which input.
  Laid BY PROGRAM, IN A SANDBOX (cutbox-rows.mjs): the forced cells as the released guide's own fill.sh prints them over the translation 3c4a584c6f1340cf… (all of the seat's roots in one cut). By AI agents, Wed Nov 11 2026. No macro, syntax, notation, axiom, sorry.
-/
import Derived.Test.YtoipnooncnpndaaChecked
import GoSem.Claim
import GoSem.ClaimJoined
import GoSem.ClaimMapViews
import Derived.JoinedTies
import Derived.KernelRfl
namespace Go.Proofs.Ytoipnooncnpndaa
/- THE CELL 'sum', in the pinned program and in every row, IS THE sha256 OF THE DUMP (.gsa) THAT YtoipnooncnpndaaProg.lean LOADS. Nothing in Lean hashes anything: it is a label: what it is worth is what the hold of that sum in a sandbox is worth. -/
noncomputable def Try.pinned : Pinned := { name := "ytoipnooncnpndaa", sum := "3c4a584c6f1340cf6e7ea93a7a2a1784087040f97f37c8fc1235af4c78aa661b", checked := Try.checked }
namespace Rows
def none {H : Type} : Left H := { results := [], args := [] }

/-- 'laws.FnExactPositionText': WHATEVER THE INPUT: true; the input reads as it did. -/
def fnExactPositionTextSpec : ChangeSpec := { name := "fnExactPositionText", fn := fun _ => fun
  | [d1, d2] => { results := [.lit (.bool true)], args := [d1, d2] }
  | _ => none }
def fnExactPositionTextRow : OpenClaim := { program := "ytoipnooncnpndaa", sum := "3c4a584c6f1340cf6e7ea93a7a2a1784087040f97f37c8fc1235af4c78aa661b", func := "loop.example/g03302/laws.FnExactPositionText", spec := "fnExactPositionText", apart := false }
def FnExactPositionTextSaid : Prop := fnExactPositionTextRow.holds Try.pinned (OpenSpec.ofChange fnExactPositionTextSpec)

/-- ITS FALSE NEIGHBOUR: 'it returns false'. Refute it at one input. -/
def fnExactPositionTextWrong : ChangeSpec := { name := "fnExactPositionText", fn := fun _ => fun
  | [d1, d2] => { results := [.lit (.bool false)], args := [d1, d2] }
  | _ => none }
def FnExactPositionTextWrongFalsely : Prop := fnExactPositionTextRow.holds Try.pinned (OpenSpec.ofChange fnExactPositionTextWrong)

/-- 'laws.FnLines': WHATEVER THE INPUT: true; the input reads as it did. -/
def fnLinesSpec : ChangeSpec := { name := "fnLines", fn := fun _ => fun
  | [d] => { results := [.lit (.bool true)], args := [d] }
  | _ => none }
def fnLinesRow : OpenClaim := { program := "ytoipnooncnpndaa", sum := "3c4a584c6f1340cf6e7ea93a7a2a1784087040f97f37c8fc1235af4c78aa661b", func := "loop.example/g03302/laws.FnLines", spec := "fnLines", apart := false }
def FnLinesSaid : Prop := fnLinesRow.holds Try.pinned (OpenSpec.ofChange fnLinesSpec)

/-- ITS FALSE NEIGHBOUR: 'it returns false'. Refute it at one input. -/
def fnLinesWrong : ChangeSpec := { name := "fnLines", fn := fun _ => fun
  | [d] => { results := [.lit (.bool false)], args := [d] }
  | _ => none }
def FnLinesWrongFalsely : Prop := fnLinesRow.holds Try.pinned (OpenSpec.ofChange fnLinesWrong)

/-- 'laws.FnPositions': WHATEVER THE INPUT: true; the input reads as it did. -/
def fnPositionsSpec : ChangeSpec := { name := "fnPositions", fn := fun _ => fun
  | [d] => { results := [.lit (.bool true)], args := [d] }
  | _ => none }
def fnPositionsRow : OpenClaim := { program := "ytoipnooncnpndaa", sum := "3c4a584c6f1340cf6e7ea93a7a2a1784087040f97f37c8fc1235af4c78aa661b", func := "loop.example/g03302/laws.FnPositions", spec := "fnPositions", apart := false }
def FnPositionsSaid : Prop := fnPositionsRow.holds Try.pinned (OpenSpec.ofChange fnPositionsSpec)

/-- ITS FALSE NEIGHBOUR: 'it returns false'. Refute it at one input. -/
def fnPositionsWrong : ChangeSpec := { name := "fnPositions", fn := fun _ => fun
  | [d] => { results := [.lit (.bool false)], args := [d] }
  | _ => none }
def FnPositionsWrongFalsely : Prop := fnPositionsRow.holds Try.pinned (OpenSpec.ofChange fnPositionsWrong)

/-- 'laws.FnJumps': WHATEVER THE INPUT: true; the input reads as it did. -/
def fnJumpsSpec : ChangeSpec := { name := "fnJumps", fn := fun _ => fun
  | [d] => { results := [.lit (.bool true)], args := [d] }
  | _ => none }
def fnJumpsRow : OpenClaim := { program := "ytoipnooncnpndaa", sum := "3c4a584c6f1340cf6e7ea93a7a2a1784087040f97f37c8fc1235af4c78aa661b", func := "loop.example/g03302/laws.FnJumps", spec := "fnJumps", apart := false }
def FnJumpsSaid : Prop := fnJumpsRow.holds Try.pinned (OpenSpec.ofChange fnJumpsSpec)

/-- ITS FALSE NEIGHBOUR: 'it returns false'. Refute it at one input. -/
def fnJumpsWrong : ChangeSpec := { name := "fnJumps", fn := fun _ => fun
  | [d] => { results := [.lit (.bool false)], args := [d] }
  | _ => none }
def FnJumpsWrongFalsely : Prop := fnJumpsRow.holds Try.pinned (OpenSpec.ofChange fnJumpsWrong)

/-- 'laws.FnKeys': WHATEVER THE INPUT: true; the input reads as it did. -/
def fnKeysSpec : ChangeSpec := { name := "fnKeys", fn := fun _ => fun
  | [d] => { results := [.lit (.bool true)], args := [d] }
  | _ => none }
def fnKeysRow : OpenClaim := { program := "ytoipnooncnpndaa", sum := "3c4a584c6f1340cf6e7ea93a7a2a1784087040f97f37c8fc1235af4c78aa661b", func := "loop.example/g03302/laws.FnKeys", spec := "fnKeys", apart := false }
def FnKeysSaid : Prop := fnKeysRow.holds Try.pinned (OpenSpec.ofChange fnKeysSpec)

/-- ITS FALSE NEIGHBOUR: 'it returns false'. Refute it at one input. -/
def fnKeysWrong : ChangeSpec := { name := "fnKeys", fn := fun _ => fun
  | [d] => { results := [.lit (.bool false)], args := [d] }
  | _ => none }
def FnKeysWrongFalsely : Prop := fnKeysRow.holds Try.pinned (OpenSpec.ofChange fnKeysWrong)

/-- 'laws.FnGames': WHATEVER THE INPUT: true; the input reads as it did. -/
def fnGamesSpec : ChangeSpec := { name := "fnGames", fn := fun _ => fun
  | [d] => { results := [.lit (.bool true)], args := [d] }
  | _ => none }
def fnGamesRow : OpenClaim := { program := "ytoipnooncnpndaa", sum := "3c4a584c6f1340cf6e7ea93a7a2a1784087040f97f37c8fc1235af4c78aa661b", func := "loop.example/g03302/laws.FnGames", spec := "fnGames", apart := false }
def FnGamesSaid : Prop := fnGamesRow.holds Try.pinned (OpenSpec.ofChange fnGamesSpec)

/-- ITS FALSE NEIGHBOUR: 'it returns false'. Refute it at one input. -/
def fnGamesWrong : ChangeSpec := { name := "fnGames", fn := fun _ => fun
  | [d] => { results := [.lit (.bool false)], args := [d] }
  | _ => none }
def FnGamesWrongFalsely : Prop := fnGamesRow.holds Try.pinned (OpenSpec.ofChange fnGamesWrong)

/- THE SECOND FORM. 'bulk': how many values and letters a reading holds, each counted each time it is reached (what is shared counts as often as it is met; a slice's spare places count too). A statement '..UptoSaid' is the law's where the arguments, and the package variables that the reading takes, are together of bulk at most 1048576: NARROWER than '..Said'. Prove '..Said' where nothing that the law and all that it calls make is longer than what came in: it says more and counts as full. Else prove '..UptoSaid'. A law counts once. -/
mutual
def uptoBulk {H : Type} : DataW H → Nat
  | .lit (.string bytes) => bytes.length + 1
  | .lit _ => 1
  | .nil => 1
  | .ptr d => uptoBulk d + 1
  | .slice elems spare => uptoBulkAll elems + uptoBulkAll spare + 1
  | .agg parts => uptoBulkAll parts + 1
  | .iface _ d => uptoBulk d + 1
  | .map entries => uptoBulkEntries entries + 1
  | .held _ => 1
def uptoBulkAll {H : Type} : List (DataW H) → Nat
  | [] => 0
  | d :: r => uptoBulk d + uptoBulkAll r
def uptoBulkEntries {H : Type} : List (Lit × DataW H) → Nat
  | [] => 0
  | x :: r => uptoBulkEntry x + uptoBulkEntries r
def uptoBulkEntry {H : Type} : Lit × DataW H → Nat
  | (.string bytes, d) => bytes.length + uptoBulk d + 1
  | (_, d) => uptoBulk d + 1
 end
def uptoSmall : (H : Type) → List (DataW H) → Bool := fun _ ds => decide (uptoBulkAll ds ≤ 1048576)
def OpenSpec.upto (s : _root_.Go.ChangeSpec) : _root_.Go.OpenSpec := { _root_.Go.OpenSpec.ofChange s with cond := some uptoSmall }

/-- 'laws.FnExactPositionText', WHERE WHAT IT READS IS OF BULK AT MOST 1048576: true; the input reads as it did. -/
def fnExactPositionTextUptoRow : OpenClaim := { program := "ytoipnooncnpndaa", sum := "3c4a584c6f1340cf6e7ea93a7a2a1784087040f97f37c8fc1235af4c78aa661b", func := "loop.example/g03302/laws.FnExactPositionText", spec := "fnExactPositionText", apart := false, narrowed := true }
def FnExactPositionTextUptoSaid : Prop := fnExactPositionTextUptoRow.holds Try.pinned (OpenSpec.upto fnExactPositionTextSpec)

/-- 'laws.FnLines', WHERE WHAT IT READS IS OF BULK AT MOST 1048576: true; the input reads as it did. -/
def fnLinesUptoRow : OpenClaim := { program := "ytoipnooncnpndaa", sum := "3c4a584c6f1340cf6e7ea93a7a2a1784087040f97f37c8fc1235af4c78aa661b", func := "loop.example/g03302/laws.FnLines", spec := "fnLines", apart := false, narrowed := true }
def FnLinesUptoSaid : Prop := fnLinesUptoRow.holds Try.pinned (OpenSpec.upto fnLinesSpec)

/-- 'laws.FnPositions', WHERE WHAT IT READS IS OF BULK AT MOST 1048576: true; the input reads as it did. -/
def fnPositionsUptoRow : OpenClaim := { program := "ytoipnooncnpndaa", sum := "3c4a584c6f1340cf6e7ea93a7a2a1784087040f97f37c8fc1235af4c78aa661b", func := "loop.example/g03302/laws.FnPositions", spec := "fnPositions", apart := false, narrowed := true }
def FnPositionsUptoSaid : Prop := fnPositionsUptoRow.holds Try.pinned (OpenSpec.upto fnPositionsSpec)

/-- 'laws.FnJumps', WHERE WHAT IT READS IS OF BULK AT MOST 1048576: true; the input reads as it did. -/
def fnJumpsUptoRow : OpenClaim := { program := "ytoipnooncnpndaa", sum := "3c4a584c6f1340cf6e7ea93a7a2a1784087040f97f37c8fc1235af4c78aa661b", func := "loop.example/g03302/laws.FnJumps", spec := "fnJumps", apart := false, narrowed := true }
def FnJumpsUptoSaid : Prop := fnJumpsUptoRow.holds Try.pinned (OpenSpec.upto fnJumpsSpec)

/-- 'laws.FnKeys', WHERE WHAT IT READS IS OF BULK AT MOST 1048576: true; the input reads as it did. -/
def fnKeysUptoRow : OpenClaim := { program := "ytoipnooncnpndaa", sum := "3c4a584c6f1340cf6e7ea93a7a2a1784087040f97f37c8fc1235af4c78aa661b", func := "loop.example/g03302/laws.FnKeys", spec := "fnKeys", apart := false, narrowed := true }
def FnKeysUptoSaid : Prop := fnKeysUptoRow.holds Try.pinned (OpenSpec.upto fnKeysSpec)

/-- 'laws.FnGames', WHERE WHAT IT READS IS OF BULK AT MOST 1048576: true; the input reads as it did. -/
def fnGamesUptoRow : OpenClaim := { program := "ytoipnooncnpndaa", sum := "3c4a584c6f1340cf6e7ea93a7a2a1784087040f97f37c8fc1235af4c78aa661b", func := "loop.example/g03302/laws.FnGames", spec := "fnGames", apart := false, narrowed := true }
def FnGamesUptoSaid : Prop := fnGamesUptoRow.holds Try.pinned (OpenSpec.upto fnGamesSpec)

end Rows
end Go.Proofs.Ytoipnooncnpndaa
