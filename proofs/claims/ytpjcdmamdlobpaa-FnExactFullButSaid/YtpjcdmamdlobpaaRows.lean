/-
  No cell of these rows narrows 'for every input' (looked for: loops, veiled, ifaces, maps, wideKeys, modest, calm, conditions, laid).
  DERIVED. THE GIVEN ROWS OF THIS SEAT. 12 by the template 'for every input the law returns true; each argument reads behind the call as it read before'; 0 by the template 'total and deterministic' (their statements: YtpjcdmamdlobpaaTotals.lean).
  GIVEN WITH THE SEED: the statements are not yours to turn. If you find one false, say at which input.
  Laid BY PROGRAM, IN A SANDBOX (cutbox-rows.mjs): the forced cells as the released guide's own fill.sh prints them over the translation b5a81e122fb5f231… (all of the seat's roots in one cut). By AI agents, Wed Nov 11 2026. No macro, syntax, notation, axiom, sorry.
-/
import Derived.Test.YtpjcdmamdlobpaaChecked
import GoSem.Claim
import GoSem.ClaimJoined
import GoSem.ClaimMapViews
import Derived.JoinedTies
import Derived.KernelRfl
namespace Go.Proofs.Ytpjcdmamdlobpaa
/- THE CELL 'sum', in the pinned program and in every row, IS THE sha256 OF THE DUMP (.gsa) THAT YtpjcdmamdlobpaaProg.lean LOADS. Nothing in Lean hashes anything: it is a label: what it is worth is what the hold of that sum in a sandbox is worth. -/
noncomputable def Try.pinned : Pinned := { name := "ytpjcdmamdlobpaa", sum := "b5a81e122fb5f2318b6a882acded1999b33464d8fefe499bc693771345e7ecb0", checked := Try.checked }
namespace Rows
def none {H : Type} : Left H := { results := [], args := [] }

/-- 'laws.FnExactConstants': WHATEVER THE INPUT: true; the input reads as it did. -/
def fnExactConstantsSpec : ChangeSpec := { name := "fnExactConstants", fn := fun _ => fun
  | [] => { results := [.lit (.bool true)], args := [] }
  | _ => none }
def fnExactConstantsRow : OpenClaim := { program := "ytpjcdmamdlobpaa", sum := "b5a81e122fb5f2318b6a882acded1999b33464d8fefe499bc693771345e7ecb0", func := "loop.example/g03302/laws.FnExactConstants", spec := "fnExactConstants", apart := false }
def FnExactConstantsSaid : Prop := fnExactConstantsRow.holds Try.pinned (OpenSpec.ofChange fnExactConstantsSpec)

/-- ITS FALSE NEIGHBOUR: 'it returns false'. Refute it at one input. -/
def fnExactConstantsWrong : ChangeSpec := { name := "fnExactConstants", fn := fun _ => fun
  | [] => { results := [.lit (.bool false)], args := [] }
  | _ => none }
def FnExactConstantsWrongFalsely : Prop := fnExactConstantsRow.holds Try.pinned (OpenSpec.ofChange fnExactConstantsWrong)

/-- 'laws.FnExactClamp': WHATEVER THE INPUT: true; the input reads as it did. -/
def fnExactClampSpec : ChangeSpec := { name := "fnExactClamp", fn := fun _ => fun
  | [d1, d2, d3] => { results := [.lit (.bool true)], args := [d1, d2, d3] }
  | _ => none }
def fnExactClampRow : OpenClaim := { program := "ytpjcdmamdlobpaa", sum := "b5a81e122fb5f2318b6a882acded1999b33464d8fefe499bc693771345e7ecb0", func := "loop.example/g03302/laws.FnExactClamp", spec := "fnExactClamp", apart := false }
def FnExactClampSaid : Prop := fnExactClampRow.holds Try.pinned (OpenSpec.ofChange fnExactClampSpec)

/-- ITS FALSE NEIGHBOUR: 'it returns false'. Refute it at one input. -/
def fnExactClampWrong : ChangeSpec := { name := "fnExactClamp", fn := fun _ => fun
  | [d1, d2, d3] => { results := [.lit (.bool false)], args := [d1, d2, d3] }
  | _ => none }
def FnExactClampWrongFalsely : Prop := fnExactClampRow.holds Try.pinned (OpenSpec.ofChange fnExactClampWrong)

/-- 'laws.FnExactBoardOk': WHATEVER THE INPUT: true; the input reads as it did. -/
def fnExactBoardOkSpec : ChangeSpec := { name := "fnExactBoardOk", fn := fun _ => fun
  | [d] => { results := [.lit (.bool true)], args := [d] }
  | _ => none }
def fnExactBoardOkRow : OpenClaim := { program := "ytpjcdmamdlobpaa", sum := "b5a81e122fb5f2318b6a882acded1999b33464d8fefe499bc693771345e7ecb0", func := "loop.example/g03302/laws.FnExactBoardOk", spec := "fnExactBoardOk", apart := false }
def FnExactBoardOkSaid : Prop := fnExactBoardOkRow.holds Try.pinned (OpenSpec.ofChange fnExactBoardOkSpec)

/-- ITS FALSE NEIGHBOUR: 'it returns false'. Refute it at one input. -/
def fnExactBoardOkWrong : ChangeSpec := { name := "fnExactBoardOk", fn := fun _ => fun
  | [d] => { results := [.lit (.bool false)], args := [d] }
  | _ => none }
def FnExactBoardOkWrongFalsely : Prop := fnExactBoardOkRow.holds Try.pinned (OpenSpec.ofChange fnExactBoardOkWrong)

/-- 'laws.FnExactPositionOk': WHATEVER THE INPUT: true; the input reads as it did. -/
def fnExactPositionOkSpec : ChangeSpec := { name := "fnExactPositionOk", fn := fun _ => fun
  | [d1, d2] => { results := [.lit (.bool true)], args := [d1, d2] }
  | _ => none }
def fnExactPositionOkRow : OpenClaim := { program := "ytpjcdmamdlobpaa", sum := "b5a81e122fb5f2318b6a882acded1999b33464d8fefe499bc693771345e7ecb0", func := "loop.example/g03302/laws.FnExactPositionOk", spec := "fnExactPositionOk", apart := false }
def FnExactPositionOkSaid : Prop := fnExactPositionOkRow.holds Try.pinned (OpenSpec.ofChange fnExactPositionOkSpec)

/-- ITS FALSE NEIGHBOUR: 'it returns false'. Refute it at one input. -/
def fnExactPositionOkWrong : ChangeSpec := { name := "fnExactPositionOk", fn := fun _ => fun
  | [d1, d2] => { results := [.lit (.bool false)], args := [d1, d2] }
  | _ => none }
def FnExactPositionOkWrongFalsely : Prop := fnExactPositionOkRow.holds Try.pinned (OpenSpec.ofChange fnExactPositionOkWrong)

/-- 'laws.FnExactTurnLine': WHATEVER THE INPUT: true; the input reads as it did. -/
def fnExactTurnLineSpec : ChangeSpec := { name := "fnExactTurnLine", fn := fun _ => fun
  | [d] => { results := [.lit (.bool true)], args := [d] }
  | _ => none }
def fnExactTurnLineRow : OpenClaim := { program := "ytpjcdmamdlobpaa", sum := "b5a81e122fb5f2318b6a882acded1999b33464d8fefe499bc693771345e7ecb0", func := "loop.example/g03302/laws.FnExactTurnLine", spec := "fnExactTurnLine", apart := false }
def FnExactTurnLineSaid : Prop := fnExactTurnLineRow.holds Try.pinned (OpenSpec.ofChange fnExactTurnLineSpec)

/-- ITS FALSE NEIGHBOUR: 'it returns false'. Refute it at one input. -/
def fnExactTurnLineWrong : ChangeSpec := { name := "fnExactTurnLine", fn := fun _ => fun
  | [d] => { results := [.lit (.bool false)], args := [d] }
  | _ => none }
def FnExactTurnLineWrongFalsely : Prop := fnExactTurnLineRow.holds Try.pinned (OpenSpec.ofChange fnExactTurnLineWrong)

/-- 'laws.FnExactHasHole': WHATEVER THE INPUT: true; the input reads as it did. -/
def fnExactHasHoleSpec : ChangeSpec := { name := "fnExactHasHole", fn := fun _ => fun
  | [d1, d2] => { results := [.lit (.bool true)], args := [d1, d2] }
  | _ => none }
def fnExactHasHoleRow : OpenClaim := { program := "ytpjcdmamdlobpaa", sum := "b5a81e122fb5f2318b6a882acded1999b33464d8fefe499bc693771345e7ecb0", func := "loop.example/g03302/laws.FnExactHasHole", spec := "fnExactHasHole", apart := false }
def FnExactHasHoleSaid : Prop := fnExactHasHoleRow.holds Try.pinned (OpenSpec.ofChange fnExactHasHoleSpec)

/-- ITS FALSE NEIGHBOUR: 'it returns false'. Refute it at one input. -/
def fnExactHasHoleWrong : ChangeSpec := { name := "fnExactHasHole", fn := fun _ => fun
  | [d1, d2] => { results := [.lit (.bool false)], args := [d1, d2] }
  | _ => none }
def FnExactHasHoleWrongFalsely : Prop := fnExactHasHoleRow.holds Try.pinned (OpenSpec.ofChange fnExactHasHoleWrong)

/-- 'laws.FnExactRectangle': WHATEVER THE INPUT: true; the input reads as it did. -/
def fnExactRectangleSpec : ChangeSpec := { name := "fnExactRectangle", fn := fun _ => fun
  | [d1, d2] => { results := [.lit (.bool true)], args := [d1, d2] }
  | _ => none }
def fnExactRectangleRow : OpenClaim := { program := "ytpjcdmamdlobpaa", sum := "b5a81e122fb5f2318b6a882acded1999b33464d8fefe499bc693771345e7ecb0", func := "loop.example/g03302/laws.FnExactRectangle", spec := "fnExactRectangle", apart := false }
def FnExactRectangleSaid : Prop := fnExactRectangleRow.holds Try.pinned (OpenSpec.ofChange fnExactRectangleSpec)

/-- ITS FALSE NEIGHBOUR: 'it returns false'. Refute it at one input. -/
def fnExactRectangleWrong : ChangeSpec := { name := "fnExactRectangle", fn := fun _ => fun
  | [d1, d2] => { results := [.lit (.bool false)], args := [d1, d2] }
  | _ => none }
def FnExactRectangleWrongFalsely : Prop := fnExactRectangleRow.holds Try.pinned (OpenSpec.ofChange fnExactRectangleWrong)

/-- 'laws.FnExactHasPeg': WHATEVER THE INPUT: true; the input reads as it did. -/
def fnExactHasPegSpec : ChangeSpec := { name := "fnExactHasPeg", fn := fun _ => fun
  | [d1, d2, d3] => { results := [.lit (.bool true)], args := [d1, d2, d3] }
  | _ => none }
def fnExactHasPegRow : OpenClaim := { program := "ytpjcdmamdlobpaa", sum := "b5a81e122fb5f2318b6a882acded1999b33464d8fefe499bc693771345e7ecb0", func := "loop.example/g03302/laws.FnExactHasPeg", spec := "fnExactHasPeg", apart := false }
def FnExactHasPegSaid : Prop := fnExactHasPegRow.holds Try.pinned (OpenSpec.ofChange fnExactHasPegSpec)

/-- ITS FALSE NEIGHBOUR: 'it returns false'. Refute it at one input. -/
def fnExactHasPegWrong : ChangeSpec := { name := "fnExactHasPeg", fn := fun _ => fun
  | [d1, d2, d3] => { results := [.lit (.bool false)], args := [d1, d2, d3] }
  | _ => none }
def FnExactHasPegWrongFalsely : Prop := fnExactHasPegRow.holds Try.pinned (OpenSpec.ofChange fnExactHasPegWrong)

/-- 'laws.FnExactCrossBoard': WHATEVER THE INPUT: true; the input reads as it did. -/
def fnExactCrossBoardSpec : ChangeSpec := { name := "fnExactCrossBoard", fn := fun _ => fun
  | [] => { results := [.lit (.bool true)], args := [] }
  | _ => none }
def fnExactCrossBoardRow : OpenClaim := { program := "ytpjcdmamdlobpaa", sum := "b5a81e122fb5f2318b6a882acded1999b33464d8fefe499bc693771345e7ecb0", func := "loop.example/g03302/laws.FnExactCrossBoard", spec := "fnExactCrossBoard", apart := false }
def FnExactCrossBoardSaid : Prop := fnExactCrossBoardRow.holds Try.pinned (OpenSpec.ofChange fnExactCrossBoardSpec)

/-- ITS FALSE NEIGHBOUR: 'it returns false'. Refute it at one input. -/
def fnExactCrossBoardWrong : ChangeSpec := { name := "fnExactCrossBoard", fn := fun _ => fun
  | [] => { results := [.lit (.bool false)], args := [] }
  | _ => none }
def FnExactCrossBoardWrongFalsely : Prop := fnExactCrossBoardRow.holds Try.pinned (OpenSpec.ofChange fnExactCrossBoardWrong)

/-- 'laws.FnExactFullBut': WHATEVER THE INPUT: true; the input reads as it did. -/
def fnExactFullButSpec : ChangeSpec := { name := "fnExactFullBut", fn := fun _ => fun
  | [d1, d2] => { results := [.lit (.bool true)], args := [d1, d2] }
  | _ => none }
def fnExactFullButRow : OpenClaim := { program := "ytpjcdmamdlobpaa", sum := "b5a81e122fb5f2318b6a882acded1999b33464d8fefe499bc693771345e7ecb0", func := "loop.example/g03302/laws.FnExactFullBut", spec := "fnExactFullBut", apart := false }
def FnExactFullButSaid : Prop := fnExactFullButRow.holds Try.pinned (OpenSpec.ofChange fnExactFullButSpec)

/-- ITS FALSE NEIGHBOUR: 'it returns false'. Refute it at one input. -/
def fnExactFullButWrong : ChangeSpec := { name := "fnExactFullBut", fn := fun _ => fun
  | [d1, d2] => { results := [.lit (.bool false)], args := [d1, d2] }
  | _ => none }
def FnExactFullButWrongFalsely : Prop := fnExactFullButRow.holds Try.pinned (OpenSpec.ofChange fnExactFullButWrong)

/-- 'laws.FnExactSinglePeg': WHATEVER THE INPUT: true; the input reads as it did. -/
def fnExactSinglePegSpec : ChangeSpec := { name := "fnExactSinglePeg", fn := fun _ => fun
  | [d1, d2] => { results := [.lit (.bool true)], args := [d1, d2] }
  | _ => none }
def fnExactSinglePegRow : OpenClaim := { program := "ytpjcdmamdlobpaa", sum := "b5a81e122fb5f2318b6a882acded1999b33464d8fefe499bc693771345e7ecb0", func := "loop.example/g03302/laws.FnExactSinglePeg", spec := "fnExactSinglePeg", apart := false }
def FnExactSinglePegSaid : Prop := fnExactSinglePegRow.holds Try.pinned (OpenSpec.ofChange fnExactSinglePegSpec)

/-- ITS FALSE NEIGHBOUR: 'it returns false'. Refute it at one input. -/
def fnExactSinglePegWrong : ChangeSpec := { name := "fnExactSinglePeg", fn := fun _ => fun
  | [d1, d2] => { results := [.lit (.bool false)], args := [d1, d2] }
  | _ => none }
def FnExactSinglePegWrongFalsely : Prop := fnExactSinglePegRow.holds Try.pinned (OpenSpec.ofChange fnExactSinglePegWrong)

/-- 'laws.FnExactSetPeg': WHATEVER THE INPUT: true; the input reads as it did. -/
def fnExactSetPegSpec : ChangeSpec := { name := "fnExactSetPeg", fn := fun _ => fun
  | [d1, d2, d3, d4] => { results := [.lit (.bool true)], args := [d1, d2, d3, d4] }
  | _ => none }
def fnExactSetPegRow : OpenClaim := { program := "ytpjcdmamdlobpaa", sum := "b5a81e122fb5f2318b6a882acded1999b33464d8fefe499bc693771345e7ecb0", func := "loop.example/g03302/laws.FnExactSetPeg", spec := "fnExactSetPeg", apart := false }
def FnExactSetPegSaid : Prop := fnExactSetPegRow.holds Try.pinned (OpenSpec.ofChange fnExactSetPegSpec)

/-- ITS FALSE NEIGHBOUR: 'it returns false'. Refute it at one input. -/
def fnExactSetPegWrong : ChangeSpec := { name := "fnExactSetPeg", fn := fun _ => fun
  | [d1, d2, d3, d4] => { results := [.lit (.bool false)], args := [d1, d2, d3, d4] }
  | _ => none }
def FnExactSetPegWrongFalsely : Prop := fnExactSetPegRow.holds Try.pinned (OpenSpec.ofChange fnExactSetPegWrong)

/- THE SECOND FORM. 'bulk': how many values and letters a reading holds, each counted each time it is reached (what is shared counts as often as it is met; a slice's spare places count too). A statement '..UptoSaid' is the law's where the arguments, and the package variables that the reading takes, are together of bulk at most 1048576: NARROWER than '..Said'. Prove '..Said' where nothing that the law and all that it calls make is longer than what came in: it says more and counts as full. Else prove '..UptoSaid'. A law counts once. -/
mutual
def uptoBulk {H : Type} : DataW H → Nat
  | .lit (.string bytes) => bytes.length + 1
  | .lit _ => 1
  | .nil => 1
  | .ptr d => uptoBulk d + 1
  | .slice elems spare => uptoBulkAll elems + uptoBulkAll spare + 1
  | .agg parts => uptoBulkAll parts + 1
  | .iface _ d => uptoBulk d + 1
  | .map entries => uptoBulkEntries entries + 1
  | .held _ => 1
def uptoBulkAll {H : Type} : List (DataW H) → Nat
  | [] => 0
  | d :: r => uptoBulk d + uptoBulkAll r
def uptoBulkEntries {H : Type} : List (Lit × DataW H) → Nat
  | [] => 0
  | x :: r => uptoBulkEntry x + uptoBulkEntries r
def uptoBulkEntry {H : Type} : Lit × DataW H → Nat
  | (.string bytes, d) => bytes.length + uptoBulk d + 1
  | (_, d) => uptoBulk d + 1
 end
def uptoSmall : (H : Type) → List (DataW H) → Bool := fun _ ds => decide (uptoBulkAll ds ≤ 1048576)
def OpenSpec.upto (s : _root_.Go.ChangeSpec) : _root_.Go.OpenSpec := { _root_.Go.OpenSpec.ofChange s with cond := some uptoSmall }

/-- 'laws.FnExactConstants', WHERE WHAT IT READS IS OF BULK AT MOST 1048576: true; the input reads as it did. -/
def fnExactConstantsUptoRow : OpenClaim := { program := "ytpjcdmamdlobpaa", sum := "b5a81e122fb5f2318b6a882acded1999b33464d8fefe499bc693771345e7ecb0", func := "loop.example/g03302/laws.FnExactConstants", spec := "fnExactConstants", apart := false, narrowed := true }
def FnExactConstantsUptoSaid : Prop := fnExactConstantsUptoRow.holds Try.pinned (OpenSpec.upto fnExactConstantsSpec)

/-- 'laws.FnExactClamp', WHERE WHAT IT READS IS OF BULK AT MOST 1048576: true; the input reads as it did. -/
def fnExactClampUptoRow : OpenClaim := { program := "ytpjcdmamdlobpaa", sum := "b5a81e122fb5f2318b6a882acded1999b33464d8fefe499bc693771345e7ecb0", func := "loop.example/g03302/laws.FnExactClamp", spec := "fnExactClamp", apart := false, narrowed := true }
def FnExactClampUptoSaid : Prop := fnExactClampUptoRow.holds Try.pinned (OpenSpec.upto fnExactClampSpec)

/-- 'laws.FnExactBoardOk', WHERE WHAT IT READS IS OF BULK AT MOST 1048576: true; the input reads as it did. -/
def fnExactBoardOkUptoRow : OpenClaim := { program := "ytpjcdmamdlobpaa", sum := "b5a81e122fb5f2318b6a882acded1999b33464d8fefe499bc693771345e7ecb0", func := "loop.example/g03302/laws.FnExactBoardOk", spec := "fnExactBoardOk", apart := false, narrowed := true }
def FnExactBoardOkUptoSaid : Prop := fnExactBoardOkUptoRow.holds Try.pinned (OpenSpec.upto fnExactBoardOkSpec)

/-- 'laws.FnExactPositionOk', WHERE WHAT IT READS IS OF BULK AT MOST 1048576: true; the input reads as it did. -/
def fnExactPositionOkUptoRow : OpenClaim := { program := "ytpjcdmamdlobpaa", sum := "b5a81e122fb5f2318b6a882acded1999b33464d8fefe499bc693771345e7ecb0", func := "loop.example/g03302/laws.FnExactPositionOk", spec := "fnExactPositionOk", apart := false, narrowed := true }
def FnExactPositionOkUptoSaid : Prop := fnExactPositionOkUptoRow.holds Try.pinned (OpenSpec.upto fnExactPositionOkSpec)

/-- 'laws.FnExactTurnLine', WHERE WHAT IT READS IS OF BULK AT MOST 1048576: true; the input reads as it did. -/
def fnExactTurnLineUptoRow : OpenClaim := { program := "ytpjcdmamdlobpaa", sum := "b5a81e122fb5f2318b6a882acded1999b33464d8fefe499bc693771345e7ecb0", func := "loop.example/g03302/laws.FnExactTurnLine", spec := "fnExactTurnLine", apart := false, narrowed := true }
def FnExactTurnLineUptoSaid : Prop := fnExactTurnLineUptoRow.holds Try.pinned (OpenSpec.upto fnExactTurnLineSpec)

/-- 'laws.FnExactHasHole', WHERE WHAT IT READS IS OF BULK AT MOST 1048576: true; the input reads as it did. -/
def fnExactHasHoleUptoRow : OpenClaim := { program := "ytpjcdmamdlobpaa", sum := "b5a81e122fb5f2318b6a882acded1999b33464d8fefe499bc693771345e7ecb0", func := "loop.example/g03302/laws.FnExactHasHole", spec := "fnExactHasHole", apart := false, narrowed := true }
def FnExactHasHoleUptoSaid : Prop := fnExactHasHoleUptoRow.holds Try.pinned (OpenSpec.upto fnExactHasHoleSpec)

/-- 'laws.FnExactRectangle', WHERE WHAT IT READS IS OF BULK AT MOST 1048576: true; the input reads as it did. -/
def fnExactRectangleUptoRow : OpenClaim := { program := "ytpjcdmamdlobpaa", sum := "b5a81e122fb5f2318b6a882acded1999b33464d8fefe499bc693771345e7ecb0", func := "loop.example/g03302/laws.FnExactRectangle", spec := "fnExactRectangle", apart := false, narrowed := true }
def FnExactRectangleUptoSaid : Prop := fnExactRectangleUptoRow.holds Try.pinned (OpenSpec.upto fnExactRectangleSpec)

/-- 'laws.FnExactHasPeg', WHERE WHAT IT READS IS OF BULK AT MOST 1048576: true; the input reads as it did. -/
def fnExactHasPegUptoRow : OpenClaim := { program := "ytpjcdmamdlobpaa", sum := "b5a81e122fb5f2318b6a882acded1999b33464d8fefe499bc693771345e7ecb0", func := "loop.example/g03302/laws.FnExactHasPeg", spec := "fnExactHasPeg", apart := false, narrowed := true }
def FnExactHasPegUptoSaid : Prop := fnExactHasPegUptoRow.holds Try.pinned (OpenSpec.upto fnExactHasPegSpec)

/-- 'laws.FnExactCrossBoard', WHERE WHAT IT READS IS OF BULK AT MOST 1048576: true; the input reads as it did. -/
def fnExactCrossBoardUptoRow : OpenClaim := { program := "ytpjcdmamdlobpaa", sum := "b5a81e122fb5f2318b6a882acded1999b33464d8fefe499bc693771345e7ecb0", func := "loop.example/g03302/laws.FnExactCrossBoard", spec := "fnExactCrossBoard", apart := false, narrowed := true }
def FnExactCrossBoardUptoSaid : Prop := fnExactCrossBoardUptoRow.holds Try.pinned (OpenSpec.upto fnExactCrossBoardSpec)

/-- 'laws.FnExactFullBut', WHERE WHAT IT READS IS OF BULK AT MOST 1048576: true; the input reads as it did. -/
def fnExactFullButUptoRow : OpenClaim := { program := "ytpjcdmamdlobpaa", sum := "b5a81e122fb5f2318b6a882acded1999b33464d8fefe499bc693771345e7ecb0", func := "loop.example/g03302/laws.FnExactFullBut", spec := "fnExactFullBut", apart := false, narrowed := true }
def FnExactFullButUptoSaid : Prop := fnExactFullButUptoRow.holds Try.pinned (OpenSpec.upto fnExactFullButSpec)

/-- 'laws.FnExactSinglePeg', WHERE WHAT IT READS IS OF BULK AT MOST 1048576: true; the input reads as it did. -/
def fnExactSinglePegUptoRow : OpenClaim := { program := "ytpjcdmamdlobpaa", sum := "b5a81e122fb5f2318b6a882acded1999b33464d8fefe499bc693771345e7ecb0", func := "loop.example/g03302/laws.FnExactSinglePeg", spec := "fnExactSinglePeg", apart := false, narrowed := true }
def FnExactSinglePegUptoSaid : Prop := fnExactSinglePegUptoRow.holds Try.pinned (OpenSpec.upto fnExactSinglePegSpec)

/-- 'laws.FnExactSetPeg', WHERE WHAT IT READS IS OF BULK AT MOST 1048576: true; the input reads as it did. -/
def fnExactSetPegUptoRow : OpenClaim := { program := "ytpjcdmamdlobpaa", sum := "b5a81e122fb5f2318b6a882acded1999b33464d8fefe499bc693771345e7ecb0", func := "loop.example/g03302/laws.FnExactSetPeg", spec := "fnExactSetPeg", apart := false, narrowed := true }
def FnExactSetPegUptoSaid : Prop := fnExactSetPegUptoRow.holds Try.pinned (OpenSpec.upto fnExactSetPegSpec)

end Rows
end Go.Proofs.Ytpjcdmamdlobpaa
