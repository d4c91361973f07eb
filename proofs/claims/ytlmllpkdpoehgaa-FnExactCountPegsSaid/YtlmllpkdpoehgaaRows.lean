/-
  No cell of these rows narrows 'for every input' (looked for: loops, veiled, ifaces, maps, wideKeys, modest, calm, conditions, laid).
  DERIVED. THE GIVEN ROWS OF THIS SEAT. 30 by the template 'for every input the law returns true; each argument reads behind the call as it read before'; 0 by the template 'total and deterministic' (their statements: YtlmllpkdpoehgaaTotals.lean).
  GIVEN WITH THE SEED: the statements are not yours to turn. If you find one false, say at which input.
  Laid BY PROGRAM, IN A SANDBOX (cutbox-rows.mjs): the forced cells as the released guide's own fill.sh prints them over the translation d417a64a7a6ca7fa… (all of the seat's roots in one cut). By AI agents, Wed Nov 11 2026. No macro, syntax, notation, axiom, sorry.
-/
import Derived.Test.YtlmllpkdpoehgaaChecked
import GoSem.Claim
import GoSem.ClaimJoined
import GoSem.ClaimMapViews
import Derived.JoinedTies
import Derived.KernelRfl
namespace Go.Proofs.Ytlmllpkdpoehgaa
/- THE CELL 'sum', in the pinned program and in every row, IS THE sha256 OF THE DUMP (.gsa) THAT YtlmllpkdpoehgaaProg.lean LOADS. Nothing in Lean hashes anything: it is a label: what it is worth is what the hold of that sum in a sandbox is worth. -/
noncomputable def Try.pinned : Pinned := { name := "ytlmllpkdpoehgaa", sum := "d417a64a7a6ca7fad4d48ea1220bd7ca8de4bad699a3719c44e4b3a407940eaa", checked := Try.checked }
namespace Rows
def none {H : Type} : Left H := { results := [], args := [] }

/-- 'laws.FnExactHolesOf': WHATEVER THE INPUT: true; the input reads as it did. -/
def fnExactHolesOfSpec : ChangeSpec := { name := "fnExactHolesOf", fn := fun _ => fun
  | [d] => { results := [.lit (.bool true)], args := [d] }
  | _ => none }
def fnExactHolesOfRow : OpenClaim := { program := "ytlmllpkdpoehgaa", sum := "d417a64a7a6ca7fad4d48ea1220bd7ca8de4bad699a3719c44e4b3a407940eaa", func := "loop.example/g03302/laws.FnExactHolesOf", spec := "fnExactHolesOf", apart := false }
def FnExactHolesOfSaid : Prop := fnExactHolesOfRow.holds Try.pinned (OpenSpec.ofChange fnExactHolesOfSpec)

/-- ITS FALSE NEIGHBOUR: 'it returns false'. Refute it at one input. -/
def fnExactHolesOfWrong : ChangeSpec := { name := "fnExactHolesOf", fn := fun _ => fun
  | [d] => { results := [.lit (.bool false)], args := [d] }
  | _ => none }
def FnExactHolesOfWrongFalsely : Prop := fnExactHolesOfRow.holds Try.pinned (OpenSpec.ofChange fnExactHolesOfWrong)

/-- 'laws.FnExactCountHoles': WHATEVER THE INPUT: true; the input reads as it did. -/
def fnExactCountHolesSpec : ChangeSpec := { name := "fnExactCountHoles", fn := fun _ => fun
  | [d] => { results := [.lit (.bool true)], args := [d] }
  | _ => none }
def fnExactCountHolesRow : OpenClaim := { program := "ytlmllpkdpoehgaa", sum := "d417a64a7a6ca7fad4d48ea1220bd7ca8de4bad699a3719c44e4b3a407940eaa", func := "loop.example/g03302/laws.FnExactCountHoles", spec := "fnExactCountHoles", apart := false }
def FnExactCountHolesSaid : Prop := fnExactCountHolesRow.holds Try.pinned (OpenSpec.ofChange fnExactCountHolesSpec)

/-- ITS FALSE NEIGHBOUR: 'it returns false'. Refute it at one input. -/
def fnExactCountHolesWrong : ChangeSpec := { name := "fnExactCountHoles", fn := fun _ => fun
  | [d] => { results := [.lit (.bool false)], args := [d] }
  | _ => none }
def FnExactCountHolesWrongFalsely : Prop := fnExactCountHolesRow.holds Try.pinned (OpenSpec.ofChange fnExactCountHolesWrong)

/-- 'laws.FnExactCountPegs': WHATEVER THE INPUT: true; the input reads as it did. -/
def fnExactCountPegsSpec : ChangeSpec := { name := "fnExactCountPegs", fn := fun _ => fun
  | [d1, d2] => { results := [.lit (.bool true)], args := [d1, d2] }
  | _ => none }
def fnExactCountPegsRow : OpenClaim := { program := "ytlmllpkdpoehgaa", sum := "d417a64a7a6ca7fad4d48ea1220bd7ca8de4bad699a3719c44e4b3a407940eaa", func := "loop.example/g03302/laws.FnExactCountPegs", spec := "fnExactCountPegs", apart := false }
def FnExactCountPegsSaid : Prop := fnExactCountPegsRow.holds Try.pinned (OpenSpec.ofChange fnExactCountPegsSpec)

/-- ITS FALSE NEIGHBOUR: 'it returns false'. Refute it at one input. -/
def fnExactCountPegsWrong : ChangeSpec := { name := "fnExactCountPegs", fn := fun _ => fun
  | [d1, d2] => { results := [.lit (.bool false)], args := [d1, d2] }
  | _ => none }
def FnExactCountPegsWrongFalsely : Prop := fnExactCountPegsRow.holds Try.pinned (OpenSpec.ofChange fnExactCountPegsWrong)

/-- 'laws.FnExactCountSweeps': WHATEVER THE INPUT: true; the input reads as it did. -/
def fnExactCountSweepsSpec : ChangeSpec := { name := "fnExactCountSweeps", fn := fun _ => fun
  | [d] => { results := [.lit (.bool true)], args := [d] }
  | _ => none }
def fnExactCountSweepsRow : OpenClaim := { program := "ytlmllpkdpoehgaa", sum := "d417a64a7a6ca7fad4d48ea1220bd7ca8de4bad699a3719c44e4b3a407940eaa", func := "loop.example/g03302/laws.FnExactCountSweeps", spec := "fnExactCountSweeps", apart := false }
def FnExactCountSweepsSaid : Prop := fnExactCountSweepsRow.holds Try.pinned (OpenSpec.ofChange fnExactCountSweepsSpec)

/-- ITS FALSE NEIGHBOUR: 'it returns false'. Refute it at one input. -/
def fnExactCountSweepsWrong : ChangeSpec := { name := "fnExactCountSweeps", fn := fun _ => fun
  | [d] => { results := [.lit (.bool false)], args := [d] }
  | _ => none }
def FnExactCountSweepsWrongFalsely : Prop := fnExactCountSweepsRow.holds Try.pinned (OpenSpec.ofChange fnExactCountSweepsWrong)

/-- 'laws.FnExactClassOf': WHATEVER THE INPUT: true; the input reads as it did. -/
def fnExactClassOfSpec : ChangeSpec := { name := "fnExactClassOf", fn := fun _ => fun
  | [d1, d2] => { results := [.lit (.bool true)], args := [d1, d2] }
  | _ => none }
def fnExactClassOfRow : OpenClaim := { program := "ytlmllpkdpoehgaa", sum := "d417a64a7a6ca7fad4d48ea1220bd7ca8de4bad699a3719c44e4b3a407940eaa", func := "loop.example/g03302/laws.FnExactClassOf", spec := "fnExactClassOf", apart := false }
def FnExactClassOfSaid : Prop := fnExactClassOfRow.holds Try.pinned (OpenSpec.ofChange fnExactClassOfSpec)

/-- ITS FALSE NEIGHBOUR: 'it returns false'. Refute it at one input. -/
def fnExactClassOfWrong : ChangeSpec := { name := "fnExactClassOf", fn := fun _ => fun
  | [d1, d2] => { results := [.lit (.bool false)], args := [d1, d2] }
  | _ => none }
def FnExactClassOfWrongFalsely : Prop := fnExactClassOfRow.holds Try.pinned (OpenSpec.ofChange fnExactClassOfWrong)

/-- 'laws.FnExactCountLines': WHATEVER THE INPUT: true; the input reads as it did. -/
def fnExactCountLinesSpec : ChangeSpec := { name := "fnExactCountLines", fn := fun _ => fun
  | [d] => { results := [.lit (.bool true)], args := [d] }
  | _ => none }
def fnExactCountLinesRow : OpenClaim := { program := "ytlmllpkdpoehgaa", sum := "d417a64a7a6ca7fad4d48ea1220bd7ca8de4bad699a3719c44e4b3a407940eaa", func := "loop.example/g03302/laws.FnExactCountLines", spec := "fnExactCountLines", apart := false }
def FnExactCountLinesSaid : Prop := fnExactCountLinesRow.holds Try.pinned (OpenSpec.ofChange fnExactCountLinesSpec)

/-- ITS FALSE NEIGHBOUR: 'it returns false'. Refute it at one input. -/
def fnExactCountLinesWrong : ChangeSpec := { name := "fnExactCountLines", fn := fun _ => fun
  | [d] => { results := [.lit (.bool false)], args := [d] }
  | _ => none }
def FnExactCountLinesWrongFalsely : Prop := fnExactCountLinesRow.holds Try.pinned (OpenSpec.ofChange fnExactCountLinesWrong)

/-- 'laws.FnExactPositionText': WHATEVER THE INPUT: true; the input reads as it did. -/
def fnExactPositionTextSpec : ChangeSpec := { name := "fnExactPositionText", fn := fun _ => fun
  | [d1, d2] => { results := [.lit (.bool true)], args := [d1, d2] }
  | _ => none }
def fnExactPositionTextRow : OpenClaim := { program := "ytlmllpkdpoehgaa", sum := "d417a64a7a6ca7fad4d48ea1220bd7ca8de4bad699a3719c44e4b3a407940eaa", func := "loop.example/g03302/laws.FnExactPositionText", spec := "fnExactPositionText", apart := false }
def FnExactPositionTextSaid : Prop := fnExactPositionTextRow.holds Try.pinned (OpenSpec.ofChange fnExactPositionTextSpec)

/-- ITS FALSE NEIGHBOUR: 'it returns false'. Refute it at one input. -/
def fnExactPositionTextWrong : ChangeSpec := { name := "fnExactPositionText", fn := fun _ => fun
  | [d1, d2] => { results := [.lit (.bool false)], args := [d1, d2] }
  | _ => none }
def FnExactPositionTextWrongFalsely : Prop := fnExactPositionTextRow.holds Try.pinned (OpenSpec.ofChange fnExactPositionTextWrong)

/-- 'laws.FnExactKeyNumber': WHATEVER THE INPUT: true; the input reads as it did. -/
def fnExactKeyNumberSpec : ChangeSpec := { name := "fnExactKeyNumber", fn := fun _ => fun
  | [d1, d2] => { results := [.lit (.bool true)], args := [d1, d2] }
  | _ => none }
def fnExactKeyNumberRow : OpenClaim := { program := "ytlmllpkdpoehgaa", sum := "d417a64a7a6ca7fad4d48ea1220bd7ca8de4bad699a3719c44e4b3a407940eaa", func := "loop.example/g03302/laws.FnExactKeyNumber", spec := "fnExactKeyNumber", apart := false }
def FnExactKeyNumberSaid : Prop := fnExactKeyNumberRow.holds Try.pinned (OpenSpec.ofChange fnExactKeyNumberSpec)

/-- ITS FALSE NEIGHBOUR: 'it returns false'. Refute it at one input. -/
def fnExactKeyNumberWrong : ChangeSpec := { name := "fnExactKeyNumber", fn := fun _ => fun
  | [d1, d2] => { results := [.lit (.bool false)], args := [d1, d2] }
  | _ => none }
def FnExactKeyNumberWrongFalsely : Prop := fnExactKeyNumberRow.holds Try.pinned (OpenSpec.ofChange fnExactKeyNumberWrong)

/-- 'laws.FnExactSameKey': WHATEVER THE INPUT: true; the input reads as it did. -/
def fnExactSameKeySpec : ChangeSpec := { name := "fnExactSameKey", fn := fun _ => fun
  | [d1, d2, d3] => { results := [.lit (.bool true)], args := [d1, d2, d3] }
  | _ => none }
def fnExactSameKeyRow : OpenClaim := { program := "ytlmllpkdpoehgaa", sum := "d417a64a7a6ca7fad4d48ea1220bd7ca8de4bad699a3719c44e4b3a407940eaa", func := "loop.example/g03302/laws.FnExactSameKey", spec := "fnExactSameKey", apart := false }
def FnExactSameKeySaid : Prop := fnExactSameKeyRow.holds Try.pinned (OpenSpec.ofChange fnExactSameKeySpec)

/-- ITS FALSE NEIGHBOUR: 'it returns false'. Refute it at one input. -/
def fnExactSameKeyWrong : ChangeSpec := { name := "fnExactSameKey", fn := fun _ => fun
  | [d1, d2, d3] => { results := [.lit (.bool false)], args := [d1, d2, d3] }
  | _ => none }
def FnExactSameKeyWrongFalsely : Prop := fnExactSameKeyRow.holds Try.pinned (OpenSpec.ofChange fnExactSameKeyWrong)

/-- 'laws.FnExactKeyOf': WHATEVER THE INPUT: true; the input reads as it did. -/
def fnExactKeyOfSpec : ChangeSpec := { name := "fnExactKeyOf", fn := fun _ => fun
  | [d1, d2] => { results := [.lit (.bool true)], args := [d1, d2] }
  | _ => none }
def fnExactKeyOfRow : OpenClaim := { program := "ytlmllpkdpoehgaa", sum := "d417a64a7a6ca7fad4d48ea1220bd7ca8de4bad699a3719c44e4b3a407940eaa", func := "loop.example/g03302/laws.FnExactKeyOf", spec := "fnExactKeyOf", apart := false }
def FnExactKeyOfSaid : Prop := fnExactKeyOfRow.holds Try.pinned (OpenSpec.ofChange fnExactKeyOfSpec)

/-- ITS FALSE NEIGHBOUR: 'it returns false'. Refute it at one input. -/
def fnExactKeyOfWrong : ChangeSpec := { name := "fnExactKeyOf", fn := fun _ => fun
  | [d1, d2] => { results := [.lit (.bool false)], args := [d1, d2] }
  | _ => none }
def FnExactKeyOfWrongFalsely : Prop := fnExactKeyOfRow.holds Try.pinned (OpenSpec.ofChange fnExactKeyOfWrong)

/-- 'laws.FnExactIsLoneHole': WHATEVER THE INPUT: true; the input reads as it did. -/
def fnExactIsLoneHoleSpec : ChangeSpec := { name := "fnExactIsLoneHole", fn := fun _ => fun
  | [d1, d2] => { results := [.lit (.bool true)], args := [d1, d2] }
  | _ => none }
def fnExactIsLoneHoleRow : OpenClaim := { program := "ytlmllpkdpoehgaa", sum := "d417a64a7a6ca7fad4d48ea1220bd7ca8de4bad699a3719c44e4b3a407940eaa", func := "loop.example/g03302/laws.FnExactIsLoneHole", spec := "fnExactIsLoneHole", apart := false }
def FnExactIsLoneHoleSaid : Prop := fnExactIsLoneHoleRow.holds Try.pinned (OpenSpec.ofChange fnExactIsLoneHoleSpec)

/-- ITS FALSE NEIGHBOUR: 'it returns false'. Refute it at one input. -/
def fnExactIsLoneHoleWrong : ChangeSpec := { name := "fnExactIsLoneHole", fn := fun _ => fun
  | [d1, d2] => { results := [.lit (.bool false)], args := [d1, d2] }
  | _ => none }
def FnExactIsLoneHoleWrongFalsely : Prop := fnExactIsLoneHoleRow.holds Try.pinned (OpenSpec.ofChange fnExactIsLoneHoleWrong)

/-- 'laws.FnExactLineBetween': WHATEVER THE INPUT: true; the input reads as it did. -/
def fnExactLineBetweenSpec : ChangeSpec := { name := "fnExactLineBetween", fn := fun _ => fun
  | [d1, d2, d3] => { results := [.lit (.bool true)], args := [d1, d2, d3] }
  | _ => none }
def fnExactLineBetweenRow : OpenClaim := { program := "ytlmllpkdpoehgaa", sum := "d417a64a7a6ca7fad4d48ea1220bd7ca8de4bad699a3719c44e4b3a407940eaa", func := "loop.example/g03302/laws.FnExactLineBetween", spec := "fnExactLineBetween", apart := false }
def FnExactLineBetweenSaid : Prop := fnExactLineBetweenRow.holds Try.pinned (OpenSpec.ofChange fnExactLineBetweenSpec)

/-- ITS FALSE NEIGHBOUR: 'it returns false'. Refute it at one input. -/
def fnExactLineBetweenWrong : ChangeSpec := { name := "fnExactLineBetween", fn := fun _ => fun
  | [d1, d2, d3] => { results := [.lit (.bool false)], args := [d1, d2, d3] }
  | _ => none }
def FnExactLineBetweenWrongFalsely : Prop := fnExactLineBetweenRow.holds Try.pinned (OpenSpec.ofChange fnExactLineBetweenWrong)

/-- 'laws.FnExactLinesOf': WHATEVER THE INPUT: true; the input reads as it did. -/
def fnExactLinesOfSpec : ChangeSpec := { name := "fnExactLinesOf", fn := fun _ => fun
  | [d] => { results := [.lit (.bool true)], args := [d] }
  | _ => none }
def fnExactLinesOfRow : OpenClaim := { program := "ytlmllpkdpoehgaa", sum := "d417a64a7a6ca7fad4d48ea1220bd7ca8de4bad699a3719c44e4b3a407940eaa", func := "loop.example/g03302/laws.FnExactLinesOf", spec := "fnExactLinesOf", apart := false }
def FnExactLinesOfSaid : Prop := fnExactLinesOfRow.holds Try.pinned (OpenSpec.ofChange fnExactLinesOfSpec)

/-- ITS FALSE NEIGHBOUR: 'it returns false'. Refute it at one input. -/
def fnExactLinesOfWrong : ChangeSpec := { name := "fnExactLinesOf", fn := fun _ => fun
  | [d] => { results := [.lit (.bool false)], args := [d] }
  | _ => none }
def FnExactLinesOfWrongFalsely : Prop := fnExactLinesOfRow.holds Try.pinned (OpenSpec.ofChange fnExactLinesOfWrong)

/-- 'laws.FnExactCanJump': WHATEVER THE INPUT: true; the input reads as it did. -/
def fnExactCanJumpSpec : ChangeSpec := { name := "fnExactCanJump", fn := fun _ => fun
  | [d1, d2, d3] => { results := [.lit (.bool true)], args := [d1, d2, d3] }
  | _ => none }
def fnExactCanJumpRow : OpenClaim := { program := "ytlmllpkdpoehgaa", sum := "d417a64a7a6ca7fad4d48ea1220bd7ca8de4bad699a3719c44e4b3a407940eaa", func := "loop.example/g03302/laws.FnExactCanJump", spec := "fnExactCanJump", apart := false }
def FnExactCanJumpSaid : Prop := fnExactCanJumpRow.holds Try.pinned (OpenSpec.ofChange fnExactCanJumpSpec)

/-- ITS FALSE NEIGHBOUR: 'it returns false'. Refute it at one input. -/
def fnExactCanJumpWrong : ChangeSpec := { name := "fnExactCanJump", fn := fun _ => fun
  | [d1, d2, d3] => { results := [.lit (.bool false)], args := [d1, d2, d3] }
  | _ => none }
def FnExactCanJumpWrongFalsely : Prop := fnExactCanJumpRow.holds Try.pinned (OpenSpec.ofChange fnExactCanJumpWrong)

/-- 'laws.FnExactCanUndo': WHATEVER THE INPUT: true; the input reads as it did. -/
def fnExactCanUndoSpec : ChangeSpec := { name := "fnExactCanUndo", fn := fun _ => fun
  | [d1, d2, d3] => { results := [.lit (.bool true)], args := [d1, d2, d3] }
  | _ => none }
def fnExactCanUndoRow : OpenClaim := { program := "ytlmllpkdpoehgaa", sum := "d417a64a7a6ca7fad4d48ea1220bd7ca8de4bad699a3719c44e4b3a407940eaa", func := "loop.example/g03302/laws.FnExactCanUndo", spec := "fnExactCanUndo", apart := false }
def FnExactCanUndoSaid : Prop := fnExactCanUndoRow.holds Try.pinned (OpenSpec.ofChange fnExactCanUndoSpec)

/-- ITS FALSE NEIGHBOUR: 'it returns false'. Refute it at one input. -/
def fnExactCanUndoWrong : ChangeSpec := { name := "fnExactCanUndo", fn := fun _ => fun
  | [d1, d2, d3] => { results := [.lit (.bool false)], args := [d1, d2, d3] }
  | _ => none }
def FnExactCanUndoWrongFalsely : Prop := fnExactCanUndoRow.holds Try.pinned (OpenSpec.ofChange fnExactCanUndoWrong)

/-- 'laws.FnExactDoJump': WHATEVER THE INPUT: true; the input reads as it did. -/
def fnExactDoJumpSpec : ChangeSpec := { name := "fnExactDoJump", fn := fun _ => fun
  | [d1, d2, d3] => { results := [.lit (.bool true)], args := [d1, d2, d3] }
  | _ => none }
def fnExactDoJumpRow : OpenClaim := { program := "ytlmllpkdpoehgaa", sum := "d417a64a7a6ca7fad4d48ea1220bd7ca8de4bad699a3719c44e4b3a407940eaa", func := "loop.example/g03302/laws.FnExactDoJump", spec := "fnExactDoJump", apart := false }
def FnExactDoJumpSaid : Prop := fnExactDoJumpRow.holds Try.pinned (OpenSpec.ofChange fnExactDoJumpSpec)

/-- ITS FALSE NEIGHBOUR: 'it returns false'. Refute it at one input. -/
def fnExactDoJumpWrong : ChangeSpec := { name := "fnExactDoJump", fn := fun _ => fun
  | [d1, d2, d3] => { results := [.lit (.bool false)], args := [d1, d2, d3] }
  | _ => none }
def FnExactDoJumpWrongFalsely : Prop := fnExactDoJumpRow.holds Try.pinned (OpenSpec.ofChange fnExactDoJumpWrong)

/-- 'laws.FnExactUndoJump': WHATEVER THE INPUT: true; the input reads as it did. -/
def fnExactUndoJumpSpec : ChangeSpec := { name := "fnExactUndoJump", fn := fun _ => fun
  | [d1, d2, d3] => { results := [.lit (.bool true)], args := [d1, d2, d3] }
  | _ => none }
def fnExactUndoJumpRow : OpenClaim := { program := "ytlmllpkdpoehgaa", sum := "d417a64a7a6ca7fad4d48ea1220bd7ca8de4bad699a3719c44e4b3a407940eaa", func := "loop.example/g03302/laws.FnExactUndoJump", spec := "fnExactUndoJump", apart := false }
def FnExactUndoJumpSaid : Prop := fnExactUndoJumpRow.holds Try.pinned (OpenSpec.ofChange fnExactUndoJumpSpec)

/-- ITS FALSE NEIGHBOUR: 'it returns false'. Refute it at one input. -/
def fnExactUndoJumpWrong : ChangeSpec := { name := "fnExactUndoJump", fn := fun _ => fun
  | [d1, d2, d3] => { results := [.lit (.bool false)], args := [d1, d2, d3] }
  | _ => none }
def FnExactUndoJumpWrongFalsely : Prop := fnExactUndoJumpRow.holds Try.pinned (OpenSpec.ofChange fnExactUndoJumpWrong)

/-- 'laws.FnLines': WHATEVER THE INPUT: true; the input reads as it did. -/
def fnLinesSpec : ChangeSpec := { name := "fnLines", fn := fun _ => fun
  | [d] => { results := [.lit (.bool true)], args := [d] }
  | _ => none }
def fnLinesRow : OpenClaim := { program := "ytlmllpkdpoehgaa", sum := "d417a64a7a6ca7fad4d48ea1220bd7ca8de4bad699a3719c44e4b3a407940eaa", func := "loop.example/g03302/laws.FnLines", spec := "fnLines", apart := false }
def FnLinesSaid : Prop := fnLinesRow.holds Try.pinned (OpenSpec.ofChange fnLinesSpec)

/-- ITS FALSE NEIGHBOUR: 'it returns false'. Refute it at one input. -/
def fnLinesWrong : ChangeSpec := { name := "fnLines", fn := fun _ => fun
  | [d] => { results := [.lit (.bool false)], args := [d] }
  | _ => none }
def FnLinesWrongFalsely : Prop := fnLinesRow.holds Try.pinned (OpenSpec.ofChange fnLinesWrong)

/-- 'laws.FnExactLinesThrough': WHATEVER THE INPUT: true; the input reads as it did. -/
def fnExactLinesThroughSpec : ChangeSpec := { name := "fnExactLinesThrough", fn := fun _ => fun
  | [d1, d2] => { results := [.lit (.bool true)], args := [d1, d2] }
  | _ => none }
def fnExactLinesThroughRow : OpenClaim := { program := "ytlmllpkdpoehgaa", sum := "d417a64a7a6ca7fad4d48ea1220bd7ca8de4bad699a3719c44e4b3a407940eaa", func := "loop.example/g03302/laws.FnExactLinesThrough", spec := "fnExactLinesThrough", apart := false }
def FnExactLinesThroughSaid : Prop := fnExactLinesThroughRow.holds Try.pinned (OpenSpec.ofChange fnExactLinesThroughSpec)

/-- ITS FALSE NEIGHBOUR: 'it returns false'. Refute it at one input. -/
def fnExactLinesThroughWrong : ChangeSpec := { name := "fnExactLinesThrough", fn := fun _ => fun
  | [d1, d2] => { results := [.lit (.bool false)], args := [d1, d2] }
  | _ => none }
def FnExactLinesThroughWrongFalsely : Prop := fnExactLinesThroughRow.holds Try.pinned (OpenSpec.ofChange fnExactLinesThroughWrong)

/-- 'laws.FnExactJumpsOf': WHATEVER THE INPUT: true; the input reads as it did. -/
def fnExactJumpsOfSpec : ChangeSpec := { name := "fnExactJumpsOf", fn := fun _ => fun
  | [d1, d2] => { results := [.lit (.bool true)], args := [d1, d2] }
  | _ => none }
def fnExactJumpsOfRow : OpenClaim := { program := "ytlmllpkdpoehgaa", sum := "d417a64a7a6ca7fad4d48ea1220bd7ca8de4bad699a3719c44e4b3a407940eaa", func := "loop.example/g03302/laws.FnExactJumpsOf", spec := "fnExactJumpsOf", apart := false }
def FnExactJumpsOfSaid : Prop := fnExactJumpsOfRow.holds Try.pinned (OpenSpec.ofChange fnExactJumpsOfSpec)

/-- ITS FALSE NEIGHBOUR: 'it returns false'. Refute it at one input. -/
def fnExactJumpsOfWrong : ChangeSpec := { name := "fnExactJumpsOf", fn := fun _ => fun
  | [d1, d2] => { results := [.lit (.bool false)], args := [d1, d2] }
  | _ => none }
def FnExactJumpsOfWrongFalsely : Prop := fnExactJumpsOfRow.holds Try.pinned (OpenSpec.ofChange fnExactJumpsOfWrong)

/-- 'laws.FnExactUndosOf': WHATEVER THE INPUT: true; the input reads as it did. -/
def fnExactUndosOfSpec : ChangeSpec := { name := "fnExactUndosOf", fn := fun _ => fun
  | [d1, d2] => { results := [.lit (.bool true)], args := [d1, d2] }
  | _ => none }
def fnExactUndosOfRow : OpenClaim := { program := "ytlmllpkdpoehgaa", sum := "d417a64a7a6ca7fad4d48ea1220bd7ca8de4bad699a3719c44e4b3a407940eaa", func := "loop.example/g03302/laws.FnExactUndosOf", spec := "fnExactUndosOf", apart := false }
def FnExactUndosOfSaid : Prop := fnExactUndosOfRow.holds Try.pinned (OpenSpec.ofChange fnExactUndosOfSpec)

/-- ITS FALSE NEIGHBOUR: 'it returns false'. Refute it at one input. -/
def fnExactUndosOfWrong : ChangeSpec := { name := "fnExactUndosOf", fn := fun _ => fun
  | [d1, d2] => { results := [.lit (.bool false)], args := [d1, d2] }
  | _ => none }
def FnExactUndosOfWrongFalsely : Prop := fnExactUndosOfRow.holds Try.pinned (OpenSpec.ofChange fnExactUndosOfWrong)

/-- 'laws.FnExactFinalHoles': WHATEVER THE INPUT: true; the input reads as it did. -/
def fnExactFinalHolesSpec : ChangeSpec := { name := "fnExactFinalHoles", fn := fun _ => fun
  | [d1, d2] => { results := [.lit (.bool true)], args := [d1, d2] }
  | _ => none }
def fnExactFinalHolesRow : OpenClaim := { program := "ytlmllpkdpoehgaa", sum := "d417a64a7a6ca7fad4d48ea1220bd7ca8de4bad699a3719c44e4b3a407940eaa", func := "loop.example/g03302/laws.FnExactFinalHoles", spec := "fnExactFinalHoles", apart := false }
def FnExactFinalHolesSaid : Prop := fnExactFinalHolesRow.holds Try.pinned (OpenSpec.ofChange fnExactFinalHolesSpec)

/-- ITS FALSE NEIGHBOUR: 'it returns false'. Refute it at one input. -/
def fnExactFinalHolesWrong : ChangeSpec := { name := "fnExactFinalHoles", fn := fun _ => fun
  | [d1, d2] => { results := [.lit (.bool false)], args := [d1, d2] }
  | _ => none }
def FnExactFinalHolesWrongFalsely : Prop := fnExactFinalHolesRow.holds Try.pinned (OpenSpec.ofChange fnExactFinalHolesWrong)

/-- 'laws.FnPositions': WHATEVER THE INPUT: true; the input reads as it did. -/
def fnPositionsSpec : ChangeSpec := { name := "fnPositions", fn := fun _ => fun
  | [d] => { results := [.lit (.bool true)], args := [d] }
  | _ => none }
def fnPositionsRow : OpenClaim := { program := "ytlmllpkdpoehgaa", sum := "d417a64a7a6ca7fad4d48ea1220bd7ca8de4bad699a3719c44e4b3a407940eaa", func := "loop.example/g03302/laws.FnPositions", spec := "fnPositions", apart := false }
def FnPositionsSaid : Prop := fnPositionsRow.holds Try.pinned (OpenSpec.ofChange fnPositionsSpec)

/-- ITS FALSE NEIGHBOUR: 'it returns false'. Refute it at one input. -/
def fnPositionsWrong : ChangeSpec := { name := "fnPositions", fn := fun _ => fun
  | [d] => { results := [.lit (.bool false)], args := [d] }
  | _ => none }
def FnPositionsWrongFalsely : Prop := fnPositionsRow.holds Try.pinned (OpenSpec.ofChange fnPositionsWrong)

/-- 'laws.FnExactPlayAll': WHATEVER THE INPUT: true; the input reads as it did. -/
def fnExactPlayAllSpec : ChangeSpec := { name := "fnExactPlayAll", fn := fun _ => fun
  | [d1, d2, d3] => { results := [.lit (.bool true)], args := [d1, d2, d3] }
  | _ => none }
def fnExactPlayAllRow : OpenClaim := { program := "ytlmllpkdpoehgaa", sum := "d417a64a7a6ca7fad4d48ea1220bd7ca8de4bad699a3719c44e4b3a407940eaa", func := "loop.example/g03302/laws.FnExactPlayAll", spec := "fnExactPlayAll", apart := false }
def FnExactPlayAllSaid : Prop := fnExactPlayAllRow.holds Try.pinned (OpenSpec.ofChange fnExactPlayAllSpec)

/-- ITS FALSE NEIGHBOUR: 'it returns false'. Refute it at one input. -/
def fnExactPlayAllWrong : ChangeSpec := { name := "fnExactPlayAll", fn := fun _ => fun
  | [d1, d2, d3] => { results := [.lit (.bool false)], args := [d1, d2, d3] }
  | _ => none }
def FnExactPlayAllWrongFalsely : Prop := fnExactPlayAllRow.holds Try.pinned (OpenSpec.ofChange fnExactPlayAllWrong)

/-- 'laws.FnExactUndoAll': WHATEVER THE INPUT: true; the input reads as it did. -/
def fnExactUndoAllSpec : ChangeSpec := { name := "fnExactUndoAll", fn := fun _ => fun
  | [d1, d2, d3] => { results := [.lit (.bool true)], args := [d1, d2, d3] }
  | _ => none }
def fnExactUndoAllRow : OpenClaim := { program := "ytlmllpkdpoehgaa", sum := "d417a64a7a6ca7fad4d48ea1220bd7ca8de4bad699a3719c44e4b3a407940eaa", func := "loop.example/g03302/laws.FnExactUndoAll", spec := "fnExactUndoAll", apart := false }
def FnExactUndoAllSaid : Prop := fnExactUndoAllRow.holds Try.pinned (OpenSpec.ofChange fnExactUndoAllSpec)

/-- ITS FALSE NEIGHBOUR: 'it returns false'. Refute it at one input. -/
def fnExactUndoAllWrong : ChangeSpec := { name := "fnExactUndoAll", fn := fun _ => fun
  | [d1, d2, d3] => { results := [.lit (.bool false)], args := [d1, d2, d3] }
  | _ => none }
def FnExactUndoAllWrongFalsely : Prop := fnExactUndoAllRow.holds Try.pinned (OpenSpec.ofChange fnExactUndoAllWrong)

/-- 'laws.FnExactIsSolution': WHATEVER THE INPUT: true; the input reads as it did. -/
def fnExactIsSolutionSpec : ChangeSpec := { name := "fnExactIsSolution", fn := fun _ => fun
  | [d1, d2, d3, d4] => { results := [.lit (.bool true)], args := [d1, d2, d3, d4] }
  | _ => none }
def fnExactIsSolutionRow : OpenClaim := { program := "ytlmllpkdpoehgaa", sum := "d417a64a7a6ca7fad4d48ea1220bd7ca8de4bad699a3719c44e4b3a407940eaa", func := "loop.example/g03302/laws.FnExactIsSolution", spec := "fnExactIsSolution", apart := false }
def FnExactIsSolutionSaid : Prop := fnExactIsSolutionRow.holds Try.pinned (OpenSpec.ofChange fnExactIsSolutionSpec)

/-- ITS FALSE NEIGHBOUR: 'it returns false'. Refute it at one input. -/
def fnExactIsSolutionWrong : ChangeSpec := { name := "fnExactIsSolution", fn := fun _ => fun
  | [d1, d2, d3, d4] => { results := [.lit (.bool false)], args := [d1, d2, d3, d4] }
  | _ => none }
def FnExactIsSolutionWrongFalsely : Prop := fnExactIsSolutionRow.holds Try.pinned (OpenSpec.ofChange fnExactIsSolutionWrong)

/-- 'laws.FnJumps': WHATEVER THE INPUT: true; the input reads as it did. -/
def fnJumpsSpec : ChangeSpec := { name := "fnJumps", fn := fun _ => fun
  | [d] => { results := [.lit (.bool true)], args := [d] }
  | _ => none }
def fnJumpsRow : OpenClaim := { program := "ytlmllpkdpoehgaa", sum := "d417a64a7a6ca7fad4d48ea1220bd7ca8de4bad699a3719c44e4b3a407940eaa", func := "loop.example/g03302/laws.FnJumps", spec := "fnJumps", apart := false }
def FnJumpsSaid : Prop := fnJumpsRow.holds Try.pinned (OpenSpec.ofChange fnJumpsSpec)

/-- ITS FALSE NEIGHBOUR: 'it returns false'. Refute it at one input. -/
def fnJumpsWrong : ChangeSpec := { name := "fnJumps", fn := fun _ => fun
  | [d] => { results := [.lit (.bool false)], args := [d] }
  | _ => none }
def FnJumpsWrongFalsely : Prop := fnJumpsRow.holds Try.pinned (OpenSpec.ofChange fnJumpsWrong)

/-- 'laws.FnExactPositionsOf': WHATEVER THE INPUT: true; the input reads as it did. -/
def fnExactPositionsOfSpec : ChangeSpec := { name := "fnExactPositionsOf", fn := fun _ => fun
  | [d1, d2, d3] => { results := [.lit (.bool true)], args := [d1, d2, d3] }
  | _ => none }
def fnExactPositionsOfRow : OpenClaim := { program := "ytlmllpkdpoehgaa", sum := "d417a64a7a6ca7fad4d48ea1220bd7ca8de4bad699a3719c44e4b3a407940eaa", func := "loop.example/g03302/laws.FnExactPositionsOf", spec := "fnExactPositionsOf", apart := false }
def FnExactPositionsOfSaid : Prop := fnExactPositionsOfRow.holds Try.pinned (OpenSpec.ofChange fnExactPositionsOfSpec)

/-- ITS FALSE NEIGHBOUR: 'it returns false'. Refute it at one input. -/
def fnExactPositionsOfWrong : ChangeSpec := { name := "fnExactPositionsOf", fn := fun _ => fun
  | [d1, d2, d3] => { results := [.lit (.bool false)], args := [d1, d2, d3] }
  | _ => none }
def FnExactPositionsOfWrongFalsely : Prop := fnExactPositionsOfRow.holds Try.pinned (OpenSpec.ofChange fnExactPositionsOfWrong)

/-- 'laws.FnKeys': WHATEVER THE INPUT: true; the input reads as it did. -/
def fnKeysSpec : ChangeSpec := { name := "fnKeys", fn := fun _ => fun
  | [d] => { results := [.lit (.bool true)], args := [d] }
  | _ => none }
def fnKeysRow : OpenClaim := { program := "ytlmllpkdpoehgaa", sum := "d417a64a7a6ca7fad4d48ea1220bd7ca8de4bad699a3719c44e4b3a407940eaa", func := "loop.example/g03302/laws.FnKeys", spec := "fnKeys", apart := false }
def FnKeysSaid : Prop := fnKeysRow.holds Try.pinned (OpenSpec.ofChange fnKeysSpec)

/-- ITS FALSE NEIGHBOUR: 'it returns false'. Refute it at one input. -/
def fnKeysWrong : ChangeSpec := { name := "fnKeys", fn := fun _ => fun
  | [d] => { results := [.lit (.bool false)], args := [d] }
  | _ => none }
def FnKeysWrongFalsely : Prop := fnKeysRow.holds Try.pinned (OpenSpec.ofChange fnKeysWrong)

/-- 'laws.FnGames': WHATEVER THE INPUT: true; the input reads as it did. -/
def fnGamesSpec : ChangeSpec := { name := "fnGames", fn := fun _ => fun
  | [d] => { results := [.lit (.bool true)], args := [d] }
  | _ => none }
def fnGamesRow : OpenClaim := { program := "ytlmllpkdpoehgaa", sum := "d417a64a7a6ca7fad4d48ea1220bd7ca8de4bad699a3719c44e4b3a407940eaa", func := "loop.example/g03302/laws.FnGames", spec := "fnGames", apart := false }
def FnGamesSaid : Prop := fnGamesRow.holds Try.pinned (OpenSpec.ofChange fnGamesSpec)

/-- ITS FALSE NEIGHBOUR: 'it returns false'. Refute it at one input. -/
def fnGamesWrong : ChangeSpec := { name := "fnGames", fn := fun _ => fun
  | [d] => { results := [.lit (.bool false)], args := [d] }
  | _ => none }
def FnGamesWrongFalsely : Prop := fnGamesRow.holds Try.pinned (OpenSpec.ofChange fnGamesWrong)

/- THE SECOND FORM. 'bulk': how many values and letters a reading holds, each counted each time it is reached (what is shared counts as often as it is met; a slice's spare places count too). A statement '..UptoSaid' is the law's where the arguments, and the package variables that the reading takes, are together of bulk at most 1048576: NARROWER than '..Said'. Prove '..Said' where nothing that the law and all that it calls make is longer than what came in: it says more and counts as full. Else prove '..UptoSaid'. A law counts once. -/
mutual
def uptoBulk {H : Type} : DataW H → Nat
  | .lit (.string bytes) => bytes.length + 1
  | .lit _ => 1
  | .nil => 1
  | .ptr d => uptoBulk d + 1
  | .slice elems spare => uptoBulkAll elems + uptoBulkAll spare + 1
  | .agg parts => uptoBulkAll parts + 1
  | .iface _ d => uptoBulk d + 1
  | .map entries => uptoBulkEntries entries + 1
  | .held _ => 1
def uptoBulkAll {H : Type} : List (DataW H) → Nat
  | [] => 0
  | d :: r => uptoBulk d + uptoBulkAll r
def uptoBulkEntries {H : Type} : List (Lit × DataW H) → Nat
  | [] => 0
  | x :: r => uptoBulkEntry x + uptoBulkEntries r
def uptoBulkEntry {H : Type} : Lit × DataW H → Nat
  | (.string bytes, d) => bytes.length + uptoBulk d + 1
  | (_, d) => uptoBulk d + 1
 end
def uptoSmall : (H : Type) → List (DataW H) → Bool := fun _ ds => decide (uptoBulkAll ds ≤ 1048576)
def OpenSpec.upto (s : _root_.Go.ChangeSpec) : _root_.Go.OpenSpec := { _root_.Go.OpenSpec.ofChange s with cond := some uptoSmall }

/-- 'laws.FnExactHolesOf', WHERE WHAT IT READS IS OF BULK AT MOST 1048576: true; the input reads as it did. -/
def fnExactHolesOfUptoRow : OpenClaim := { program := "ytlmllpkdpoehgaa", sum := "d417a64a7a6ca7fad4d48ea1220bd7ca8de4bad699a3719c44e4b3a407940eaa", func := "loop.example/g03302/laws.FnExactHolesOf", spec := "fnExactHolesOf", apart := false, narrowed := true }
def FnExactHolesOfUptoSaid : Prop := fnExactHolesOfUptoRow.holds Try.pinned (OpenSpec.upto fnExactHolesOfSpec)

/-- 'laws.FnExactCountHoles', WHERE WHAT IT READS IS OF BULK AT MOST 1048576: true; the input reads as it did. -/
def fnExactCountHolesUptoRow : OpenClaim := { program := "ytlmllpkdpoehgaa", sum := "d417a64a7a6ca7fad4d48ea1220bd7ca8de4bad699a3719c44e4b3a407940eaa", func := "loop.example/g03302/laws.FnExactCountHoles", spec := "fnExactCountHoles", apart := false, narrowed := true }
def FnExactCountHolesUptoSaid : Prop := fnExactCountHolesUptoRow.holds Try.pinned (OpenSpec.upto fnExactCountHolesSpec)

/-- 'laws.FnExactCountPegs', WHERE WHAT IT READS IS OF BULK AT MOST 1048576: true; the input reads as it did. -/
def fnExactCountPegsUptoRow : OpenClaim := { program := "ytlmllpkdpoehgaa", sum := "d417a64a7a6ca7fad4d48ea1220bd7ca8de4bad699a3719c44e4b3a407940eaa", func := "loop.example/g03302/laws.FnExactCountPegs", spec := "fnExactCountPegs", apart := false, narrowed := true }
def FnExactCountPegsUptoSaid : Prop := fnExactCountPegsUptoRow.holds Try.pinned (OpenSpec.upto fnExactCountPegsSpec)

/-- 'laws.FnExactCountSweeps', WHERE WHAT IT READS IS OF BULK AT MOST 1048576: true; the input reads as it did. -/
def fnExactCountSweepsUptoRow : OpenClaim := { program := "ytlmllpkdpoehgaa", sum := "d417a64a7a6ca7fad4d48ea1220bd7ca8de4bad699a3719c44e4b3a407940eaa", func := "loop.example/g03302/laws.FnExactCountSweeps", spec := "fnExactCountSweeps", apart := false, narrowed := true }
def FnExactCountSweepsUptoSaid : Prop := fnExactCountSweepsUptoRow.holds Try.pinned (OpenSpec.upto fnExactCountSweepsSpec)

/-- 'laws.FnExactClassOf', WHERE WHAT IT READS IS OF BULK AT MOST 1048576: true; the input reads as it did. -/
def fnExactClassOfUptoRow : OpenClaim := { program := "ytlmllpkdpoehgaa", sum := "d417a64a7a6ca7fad4d48ea1220bd7ca8de4bad699a3719c44e4b3a407940eaa", func := "loop.example/g03302/laws.FnExactClassOf", spec := "fnExactClassOf", apart := false, narrowed := true }
def FnExactClassOfUptoSaid : Prop := fnExactClassOfUptoRow.holds Try.pinned (OpenSpec.upto fnExactClassOfSpec)

/-- 'laws.FnExactCountLines', WHERE WHAT IT READS IS OF BULK AT MOST 1048576: true; the input reads as it did. -/
def fnExactCountLinesUptoRow : OpenClaim := { program := "ytlmllpkdpoehgaa", sum := "d417a64a7a6ca7fad4d48ea1220bd7ca8de4bad699a3719c44e4b3a407940eaa", func := "loop.example/g03302/laws.FnExactCountLines", spec := "fnExactCountLines", apart := false, narrowed := true }
def FnExactCountLinesUptoSaid : Prop := fnExactCountLinesUptoRow.holds Try.pinned (OpenSpec.upto fnExactCountLinesSpec)

/-- 'laws.FnExactPositionText', WHERE WHAT IT READS IS OF BULK AT MOST 1048576: true; the input reads as it did. -/
def fnExactPositionTextUptoRow : OpenClaim := { program := "ytlmllpkdpoehgaa", sum := "d417a64a7a6ca7fad4d48ea1220bd7ca8de4bad699a3719c44e4b3a407940eaa", func := "loop.example/g03302/laws.FnExactPositionText", spec := "fnExactPositionText", apart := false, narrowed := true }
def FnExactPositionTextUptoSaid : Prop := fnExactPositionTextUptoRow.holds Try.pinned (OpenSpec.upto fnExactPositionTextSpec)

/-- 'laws.FnExactKeyNumber', WHERE WHAT IT READS IS OF BULK AT MOST 1048576: true; the input reads as it did. -/
def fnExactKeyNumberUptoRow : OpenClaim := { program := "ytlmllpkdpoehgaa", sum := "d417a64a7a6ca7fad4d48ea1220bd7ca8de4bad699a3719c44e4b3a407940eaa", func := "loop.example/g03302/laws.FnExactKeyNumber", spec := "fnExactKeyNumber", apart := false, narrowed := true }
def FnExactKeyNumberUptoSaid : Prop := fnExactKeyNumberUptoRow.holds Try.pinned (OpenSpec.upto fnExactKeyNumberSpec)

/-- 'laws.FnExactSameKey', WHERE WHAT IT READS IS OF BULK AT MOST 1048576: true; the input reads as it did. -/
def fnExactSameKeyUptoRow : OpenClaim := { program := "ytlmllpkdpoehgaa", sum := "d417a64a7a6ca7fad4d48ea1220bd7ca8de4bad699a3719c44e4b3a407940eaa", func := "loop.example/g03302/laws.FnExactSameKey", spec := "fnExactSameKey", apart := false, narrowed := true }
def FnExactSameKeyUptoSaid : Prop := fnExactSameKeyUptoRow.holds Try.pinned (OpenSpec.upto fnExactSameKeySpec)

/-- 'laws.FnExactKeyOf', WHERE WHAT IT READS IS OF BULK AT MOST 1048576: true; the input reads as it did. -/
def fnExactKeyOfUptoRow : OpenClaim := { program := "ytlmllpkdpoehgaa", sum := "d417a64a7a6ca7fad4d48ea1220bd7ca8de4bad699a3719c44e4b3a407940eaa", func := "loop.example/g03302/laws.FnExactKeyOf", spec := "fnExactKeyOf", apart := false, narrowed := true }
def FnExactKeyOfUptoSaid : Prop := fnExactKeyOfUptoRow.holds Try.pinned (OpenSpec.upto fnExactKeyOfSpec)

/-- 'laws.FnExactIsLoneHole', WHERE WHAT IT READS IS OF BULK AT MOST 1048576: true; the input reads as it did. -/
def fnExactIsLoneHoleUptoRow : OpenClaim := { program := "ytlmllpkdpoehgaa", sum := "d417a64a7a6ca7fad4d48ea1220bd7ca8de4bad699a3719c44e4b3a407940eaa", func := "loop.example/g03302/laws.FnExactIsLoneHole", spec := "fnExactIsLoneHole", apart := false, narrowed := true }
def FnExactIsLoneHoleUptoSaid : Prop := fnExactIsLoneHoleUptoRow.holds Try.pinned (OpenSpec.upto fnExactIsLoneHoleSpec)

/-- 'laws.FnExactLineBetween', WHERE WHAT IT READS IS OF BULK AT MOST 1048576: true; the input reads as it did. -/
def fnExactLineBetweenUptoRow : OpenClaim := { program := "ytlmllpkdpoehgaa", sum := "d417a64a7a6ca7fad4d48ea1220bd7ca8de4bad699a3719c44e4b3a407940eaa", func := "loop.example/g03302/laws.FnExactLineBetween", spec := "fnExactLineBetween", apart := false, narrowed := true }
def FnExactLineBetweenUptoSaid : Prop := fnExactLineBetweenUptoRow.holds Try.pinned (OpenSpec.upto fnExactLineBetweenSpec)

/-- 'laws.FnExactLinesOf', WHERE WHAT IT READS IS OF BULK AT MOST 1048576: true; the input reads as it did. -/
def fnExactLinesOfUptoRow : OpenClaim := { program := "ytlmllpkdpoehgaa", sum := "d417a64a7a6ca7fad4d48ea1220bd7ca8de4bad699a3719c44e4b3a407940eaa", func := "loop.example/g03302/laws.FnExactLinesOf", spec := "fnExactLinesOf", apart := false, narrowed := true }
def FnExactLinesOfUptoSaid : Prop := fnExactLinesOfUptoRow.holds Try.pinned (OpenSpec.upto fnExactLinesOfSpec)

/-- 'laws.FnExactCanJump', WHERE WHAT IT READS IS OF BULK AT MOST 1048576: true; the input reads as it did. -/
def fnExactCanJumpUptoRow : OpenClaim := { program := "ytlmllpkdpoehgaa", sum := "d417a64a7a6ca7fad4d48ea1220bd7ca8de4bad699a3719c44e4b3a407940eaa", func := "loop.example/g03302/laws.FnExactCanJump", spec := "fnExactCanJump", apart := false, narrowed := true }
def FnExactCanJumpUptoSaid : Prop := fnExactCanJumpUptoRow.holds Try.pinned (OpenSpec.upto fnExactCanJumpSpec)

/-- 'laws.FnExactCanUndo', WHERE WHAT IT READS IS OF BULK AT MOST 1048576: true; the input reads as it did. -/
def fnExactCanUndoUptoRow : OpenClaim := { program := "ytlmllpkdpoehgaa", sum := "d417a64a7a6ca7fad4d48ea1220bd7ca8de4bad699a3719c44e4b3a407940eaa", func := "loop.example/g03302/laws.FnExactCanUndo", spec := "fnExactCanUndo", apart := false, narrowed := true }
def FnExactCanUndoUptoSaid : Prop := fnExactCanUndoUptoRow.holds Try.pinned (OpenSpec.upto fnExactCanUndoSpec)

/-- 'laws.FnExactDoJump', WHERE WHAT IT READS IS OF BULK AT MOST 1048576: true; the input reads as it did. -/
def fnExactDoJumpUptoRow : OpenClaim := { program := "ytlmllpkdpoehgaa", sum := "d417a64a7a6ca7fad4d48ea1220bd7ca8de4bad699a3719c44e4b3a407940eaa", func := "loop.example/g03302/laws.FnExactDoJump", spec := "fnExactDoJump", apart := false, narrowed := true }
def FnExactDoJumpUptoSaid : Prop := fnExactDoJumpUptoRow.holds Try.pinned (OpenSpec.upto fnExactDoJumpSpec)

/-- 'laws.FnExactUndoJump', WHERE WHAT IT READS IS OF BULK AT MOST 1048576: true; the input reads as it did. -/
def fnExactUndoJumpUptoRow : OpenClaim := { program := "ytlmllpkdpoehgaa", sum := "d417a64a7a6ca7fad4d48ea1220bd7ca8de4bad699a3719c44e4b3a407940eaa", func := "loop.example/g03302/laws.FnExactUndoJump", spec := "fnExactUndoJump", apart := false, narrowed := true }
def FnExactUndoJumpUptoSaid : Prop := fnExactUndoJumpUptoRow.holds Try.pinned (OpenSpec.upto fnExactUndoJumpSpec)

/-- 'laws.FnLines', WHERE WHAT IT READS IS OF BULK AT MOST 1048576: true; the input reads as it did. -/
def fnLinesUptoRow : OpenClaim := { program := "ytlmllpkdpoehgaa", sum := "d417a64a7a6ca7fad4d48ea1220bd7ca8de4bad699a3719c44e4b3a407940eaa", func := "loop.example/g03302/laws.FnLines", spec := "fnLines", apart := false, narrowed := true }
def FnLinesUptoSaid : Prop := fnLinesUptoRow.holds Try.pinned (OpenSpec.upto fnLinesSpec)

/-- 'laws.FnExactLinesThrough', WHERE WHAT IT READS IS OF BULK AT MOST 1048576: true; the input reads as it did. -/
def fnExactLinesThroughUptoRow : OpenClaim := { program := "ytlmllpkdpoehgaa", sum := "d417a64a7a6ca7fad4d48ea1220bd7ca8de4bad699a3719c44e4b3a407940eaa", func := "loop.example/g03302/laws.FnExactLinesThrough", spec := "fnExactLinesThrough", apart := false, narrowed := true }
def FnExactLinesThroughUptoSaid : Prop := fnExactLinesThroughUptoRow.holds Try.pinned (OpenSpec.upto fnExactLinesThroughSpec)

/-- 'laws.FnExactJumpsOf', WHERE WHAT IT READS IS OF BULK AT MOST 1048576: true; the input reads as it did. -/
def fnExactJumpsOfUptoRow : OpenClaim := { program := "ytlmllpkdpoehgaa", sum := "d417a64a7a6ca7fad4d48ea1220bd7ca8de4bad699a3719c44e4b3a407940eaa", func := "loop.example/g03302/laws.FnExactJumpsOf", spec := "fnExactJumpsOf", apart := false, narrowed := true }
def FnExactJumpsOfUptoSaid : Prop := fnExactJumpsOfUptoRow.holds Try.pinned (OpenSpec.upto fnExactJumpsOfSpec)

/-- 'laws.FnExactUndosOf', WHERE WHAT IT READS IS OF BULK AT MOST 1048576: true; the input reads as it did. -/
def fnExactUndosOfUptoRow : OpenClaim := { program := "ytlmllpkdpoehgaa", sum := "d417a64a7a6ca7fad4d48ea1220bd7ca8de4bad699a3719c44e4b3a407940eaa", func := "loop.example/g03302/laws.FnExactUndosOf", spec := "fnExactUndosOf", apart := false, narrowed := true }
def FnExactUndosOfUptoSaid : Prop := fnExactUndosOfUptoRow.holds Try.pinned (OpenSpec.upto fnExactUndosOfSpec)

/-- 'laws.FnExactFinalHoles', WHERE WHAT IT READS IS OF BULK AT MOST 1048576: true; the input reads as it did. -/
def fnExactFinalHolesUptoRow : OpenClaim := { program := "ytlmllpkdpoehgaa", sum := "d417a64a7a6ca7fad4d48ea1220bd7ca8de4bad699a3719c44e4b3a407940eaa", func := "loop.example/g03302/laws.FnExactFinalHoles", spec := "fnExactFinalHoles", apart := false, narrowed := true }
def FnExactFinalHolesUptoSaid : Prop := fnExactFinalHolesUptoRow.holds Try.pinned (OpenSpec.upto fnExactFinalHolesSpec)

/-- 'laws.FnPositions', WHERE WHAT IT READS IS OF BULK AT MOST 1048576: true; the input reads as it did. -/
def fnPositionsUptoRow : OpenClaim := { program := "ytlmllpkdpoehgaa", sum := "d417a64a7a6ca7fad4d48ea1220bd7ca8de4bad699a3719c44e4b3a407940eaa", func := "loop.example/g03302/laws.FnPositions", spec := "fnPositions", apart := false, narrowed := true }
def FnPositionsUptoSaid : Prop := fnPositionsUptoRow.holds Try.pinned (OpenSpec.upto fnPositionsSpec)

/-- 'laws.FnExactPlayAll', WHERE WHAT IT READS IS OF BULK AT MOST 1048576: true; the input reads as it did. -/
def fnExactPlayAllUptoRow : OpenClaim := { program := "ytlmllpkdpoehgaa", sum := "d417a64a7a6ca7fad4d48ea1220bd7ca8de4bad699a3719c44e4b3a407940eaa", func := "loop.example/g03302/laws.FnExactPlayAll", spec := "fnExactPlayAll", apart := false, narrowed := true }
def FnExactPlayAllUptoSaid : Prop := fnExactPlayAllUptoRow.holds Try.pinned (OpenSpec.upto fnExactPlayAllSpec)

/-- 'laws.FnExactUndoAll', WHERE WHAT IT READS IS OF BULK AT MOST 1048576: true; the input reads as it did. -/
def fnExactUndoAllUptoRow : OpenClaim := { program := "ytlmllpkdpoehgaa", sum := "d417a64a7a6ca7fad4d48ea1220bd7ca8de4bad699a3719c44e4b3a407940eaa", func := "loop.example/g03302/laws.FnExactUndoAll", spec := "fnExactUndoAll", apart := false, narrowed := true }
def FnExactUndoAllUptoSaid : Prop := fnExactUndoAllUptoRow.holds Try.pinned (OpenSpec.upto fnExactUndoAllSpec)

/-- 'laws.FnExactIsSolution', WHERE WHAT IT READS IS OF BULK AT MOST 1048576: true; the input reads as it did. -/
def fnExactIsSolutionUptoRow : OpenClaim := { program := "ytlmllpkdpoehgaa", sum := "d417a64a7a6ca7fad4d48ea1220bd7ca8de4bad699a3719c44e4b3a407940eaa", func := "loop.example/g03302/laws.FnExactIsSolution", spec := "fnExactIsSolution", apart := false, narrowed := true }
def FnExactIsSolutionUptoSaid : Prop := fnExactIsSolutionUptoRow.holds Try.pinned (OpenSpec.upto fnExactIsSolutionSpec)

/-- 'laws.FnJumps', WHERE WHAT IT READS IS OF BULK AT MOST 1048576: true; the input reads as it did. -/
def fnJumpsUptoRow : OpenClaim := { program := "ytlmllpkdpoehgaa", sum := "d417a64a7a6ca7fad4d48ea1220bd7ca8de4bad699a3719c44e4b3a407940eaa", func := "loop.example/g03302/laws.FnJumps", spec := "fnJumps", apart := false, narrowed := true }
def FnJumpsUptoSaid : Prop := fnJumpsUptoRow.holds Try.pinned (OpenSpec.upto fnJumpsSpec)

/-- 'laws.FnExactPositionsOf', WHERE WHAT IT READS IS OF BULK AT MOST 1048576: true; the input reads as it did. -/
def fnExactPositionsOfUptoRow : OpenClaim := { program := "ytlmllpkdpoehgaa", sum := "d417a64a7a6ca7fad4d48ea1220bd7ca8de4bad699a3719c44e4b3a407940eaa", func := "loop.example/g03302/laws.FnExactPositionsOf", spec := "fnExactPositionsOf", apart := false, narrowed := true }
def FnExactPositionsOfUptoSaid : Prop := fnExactPositionsOfUptoRow.holds Try.pinned (OpenSpec.upto fnExactPositionsOfSpec)

/-- 'laws.FnKeys', WHERE WHAT IT READS IS OF BULK AT MOST 1048576: true; the input reads as it did. -/
def fnKeysUptoRow : OpenClaim := { program := "ytlmllpkdpoehgaa", sum := "d417a64a7a6ca7fad4d48ea1220bd7ca8de4bad699a3719c44e4b3a407940eaa", func := "loop.example/g03302/laws.FnKeys", spec := "fnKeys", apart := false, narrowed := true }
def FnKeysUptoSaid : Prop := fnKeysUptoRow.holds Try.pinned (OpenSpec.upto fnKeysSpec)

/-- 'laws.FnGames', WHERE WHAT IT READS IS OF BULK AT MOST 1048576: true; the input reads as it did. -/
def fnGamesUptoRow : OpenClaim := { program := "ytlmllpkdpoehgaa", sum := "d417a64a7a6ca7fad4d48ea1220bd7ca8de4bad699a3719c44e4b3a407940eaa", func := "loop.example/g03302/laws.FnGames", spec := "fnGames", apart := false, narrowed := true }
def FnGamesUptoSaid : Prop := fnGamesUptoRow.holds Try.pinned (OpenSpec.upto fnGamesSpec)

end Rows
end Go.Proofs.Ytlmllpkdpoehgaa
