/-
  No cell of these rows narrows 'for every input' (looked for: loops, veiled, ifaces, maps, wideKeys, modest, calm, conditions, laid).
  DERIVED. THE GIVEN ROWS OF THIS SEAT. 10 by the template 'for every input the law returns true; each argument reads behind the call as it read before'; 0 by the template 'total and deterministic' (their statements: YtmnnpfgmdojpmaaTotals.lean).
  GIVEN WITH THE SEED: the statements are not yours to turn. If you find one false, say at which input.
  Laid BY PROGRAM, IN A SANDBOX (cutbox-rows.mjs): the forced cells as the released guide's own fill.sh prints them over the translation a98231c4e9d01988… (all of the seat's roots in one cut). By AI agents, Wed Nov 11 2026. No macro, syntax, notation, axiom, sorry.
-/
import Derived.Test.YtmnnpfgmdojpmaaChecked
import GoSem.Claim
import GoSem.ClaimJoined
import GoSem.ClaimMapViews
import Derived.JoinedTies
import Derived.KernelRfl
namespace Go.Proofs.Ytmnnpfgmdojpmaa
/- THE CELL 'sum', in the pinned program and in every row, IS THE sha256 OF THE DUMP (.gsa) THAT YtmnnpfgmdojpmaaProg.lean LOADS. Nothing in Lean hashes anything: it is a label: what it is worth is what the hold of that sum in a sandbox is worth. -/
noncomputable def Try.pinned : Pinned := { name := "ytmnnpfgmdojpmaa", sum := "a98231c4e9d0198899927018a6f433c122edd6f58f77ae205692e3ecb39db4d8", checked := Try.checked }
namespace Rows
def none {H : Type} : Left H := { results := [], args := [] }

/-- 'laws.FnExactCountSweeps': WHATEVER THE INPUT: true; the input reads as it did. -/
def fnExactCountSweepsSpec : ChangeSpec := { name := "fnExactCountSweeps", fn := fun _ => fun
  | [d] => { results := [.lit (.bool true)], args := [d] }
  | _ => none }
def fnExactCountSweepsRow : OpenClaim := { program := "ytmnnpfgmdojpmaa", sum := "a98231c4e9d0198899927018a6f433c122edd6f58f77ae205692e3ecb39db4d8", func := "loop.example/g03302/laws.FnExactCountSweeps", spec := "fnExactCountSweeps", apart := false }
def FnExactCountSweepsSaid : Prop := fnExactCountSweepsRow.holds Try.pinned (OpenSpec.ofChange fnExactCountSweepsSpec)

/-- ITS FALSE NEIGHBOUR: 'it returns false'. Refute it at one input. -/
def fnExactCountSweepsWrong : ChangeSpec := { name := "fnExactCountSweeps", fn := fun _ => fun
  | [d] => { results := [.lit (.bool false)], args := [d] }
  | _ => none }
def FnExactCountSweepsWrongFalsely : Prop := fnExactCountSweepsRow.holds Try.pinned (OpenSpec.ofChange fnExactCountSweepsWrong)

/-- 'laws.FnExactClassOf': WHATEVER THE INPUT: true; the input reads as it did. -/
def fnExactClassOfSpec : ChangeSpec := { name := "fnExactClassOf", fn := fun _ => fun
  | [d1, d2] => { results := [.lit (.bool true)], args := [d1, d2] }
  | _ => none }
def fnExactClassOfRow : OpenClaim := { program := "ytmnnpfgmdojpmaa", sum := "a98231c4e9d0198899927018a6f433c122edd6f58f77ae205692e3ecb39db4d8", func := "loop.example/g03302/laws.FnExactClassOf", spec := "fnExactClassOf", apart := false }
def FnExactClassOfSaid : Prop := fnExactClassOfRow.holds Try.pinned (OpenSpec.ofChange fnExactClassOfSpec)

/-- ITS FALSE NEIGHBOUR: 'it returns false'. Refute it at one input. -/
def fnExactClassOfWrong : ChangeSpec := { name := "fnExactClassOf", fn := fun _ => fun
  | [d1, d2] => { results := [.lit (.bool false)], args := [d1, d2] }
  | _ => none }
def FnExactClassOfWrongFalsely : Prop := fnExactClassOfRow.holds Try.pinned (OpenSpec.ofChange fnExactClassOfWrong)

/-- 'laws.FnExactKeyNumber': WHATEVER THE INPUT: true; the input reads as it did. -/
def fnExactKeyNumberSpec : ChangeSpec := { name := "fnExactKeyNumber", fn := fun _ => fun
  | [d1, d2] => { results := [.lit (.bool true)], args := [d1, d2] }
  | _ => none }
def fnExactKeyNumberRow : OpenClaim := { program := "ytmnnpfgmdojpmaa", sum := "a98231c4e9d0198899927018a6f433c122edd6f58f77ae205692e3ecb39db4d8", func := "loop.example/g03302/laws.FnExactKeyNumber", spec := "fnExactKeyNumber", apart := false }
def FnExactKeyNumberSaid : Prop := fnExactKeyNumberRow.holds Try.pinned (OpenSpec.ofChange fnExactKeyNumberSpec)

/-- ITS FALSE NEIGHBOUR: 'it returns false'. Refute it at one input. -/
def fnExactKeyNumberWrong : ChangeSpec := { name := "fnExactKeyNumber", fn := fun _ => fun
  | [d1, d2] => { results := [.lit (.bool false)], args := [d1, d2] }
  | _ => none }
def FnExactKeyNumberWrongFalsely : Prop := fnExactKeyNumberRow.holds Try.pinned (OpenSpec.ofChange fnExactKeyNumberWrong)

/-- 'laws.FnExactSameKey': WHATEVER THE INPUT: true; the input reads as it did. -/
def fnExactSameKeySpec : ChangeSpec := { name := "fnExactSameKey", fn := fun _ => fun
  | [d1, d2, d3] => { results := [.lit (.bool true)], args := [d1, d2, d3] }
  | _ => none }
def fnExactSameKeyRow : OpenClaim := { program := "ytmnnpfgmdojpmaa", sum := "a98231c4e9d0198899927018a6f433c122edd6f58f77ae205692e3ecb39db4d8", func := "loop.example/g03302/laws.FnExactSameKey", spec := "fnExactSameKey", apart := false }
def FnExactSameKeySaid : Prop := fnExactSameKeyRow.holds Try.pinned (OpenSpec.ofChange fnExactSameKeySpec)

/-- ITS FALSE NEIGHBOUR: 'it returns false'. Refute it at one input. -/
def fnExactSameKeyWrong : ChangeSpec := { name := "fnExactSameKey", fn := fun _ => fun
  | [d1, d2, d3] => { results := [.lit (.bool false)], args := [d1, d2, d3] }
  | _ => none }
def FnExactSameKeyWrongFalsely : Prop := fnExactSameKeyRow.holds Try.pinned (OpenSpec.ofChange fnExactSameKeyWrong)

/-- 'laws.FnExactKeyOf': WHATEVER THE INPUT: true; the input reads as it did. -/
def fnExactKeyOfSpec : ChangeSpec := { name := "fnExactKeyOf", fn := fun _ => fun
  | [d1, d2] => { results := [.lit (.bool true)], args := [d1, d2] }
  | _ => none }
def fnExactKeyOfRow : OpenClaim := { program := "ytmnnpfgmdojpmaa", sum := "a98231c4e9d0198899927018a6f433c122edd6f58f77ae205692e3ecb39db4d8", func := "loop.example/g03302/laws.FnExactKeyOf", spec := "fnExactKeyOf", apart := false }
def FnExactKeyOfSaid : Prop := fnExactKeyOfRow.holds Try.pinned (OpenSpec.ofChange fnExactKeyOfSpec)

/-- ITS FALSE NEIGHBOUR: 'it returns false'. Refute it at one input. -/
def fnExactKeyOfWrong : ChangeSpec := { name := "fnExactKeyOf", fn := fun _ => fun
  | [d1, d2] => { results := [.lit (.bool false)], args := [d1, d2] }
  | _ => none }
def FnExactKeyOfWrongFalsely : Prop := fnExactKeyOfRow.holds Try.pinned (OpenSpec.ofChange fnExactKeyOfWrong)

/-- 'laws.FnExactFinalHoles': WHATEVER THE INPUT: true; the input reads as it did. -/
def fnExactFinalHolesSpec : ChangeSpec := { name := "fnExactFinalHoles", fn := fun _ => fun
  | [d1, d2] => { results := [.lit (.bool true)], args := [d1, d2] }
  | _ => none }
def fnExactFinalHolesRow : OpenClaim := { program := "ytmnnpfgmdojpmaa", sum := "a98231c4e9d0198899927018a6f433c122edd6f58f77ae205692e3ecb39db4d8", func := "loop.example/g03302/laws.FnExactFinalHoles", spec := "fnExactFinalHoles", apart := false }
def FnExactFinalHolesSaid : Prop := fnExactFinalHolesRow.holds Try.pinned (OpenSpec.ofChange fnExactFinalHolesSpec)

/-- ITS FALSE NEIGHBOUR: 'it returns false'. Refute it at one input. -/
def fnExactFinalHolesWrong : ChangeSpec := { name := "fnExactFinalHoles", fn := fun _ => fun
  | [d1, d2] => { results := [.lit (.bool false)], args := [d1, d2] }
  | _ => none }
def FnExactFinalHolesWrongFalsely : Prop := fnExactFinalHolesRow.holds Try.pinned (OpenSpec.ofChange fnExactFinalHolesWrong)

/-- 'laws.FnExactPlayAll': WHATEVER THE INPUT: true; the input reads as it did. -/
def fnExactPlayAllSpec : ChangeSpec := { name := "fnExactPlayAll", fn := fun _ => fun
  | [d1, d2, d3] => { results := [.lit (.bool true)], args := [d1, d2, d3] }
  | _ => none }
def fnExactPlayAllRow : OpenClaim := { program := "ytmnnpfgmdojpmaa", sum := "a98231c4e9d0198899927018a6f433c122edd6f58f77ae205692e3ecb39db4d8", func := "loop.example/g03302/laws.FnExactPlayAll", spec := "fnExactPlayAll", apart := false }
def FnExactPlayAllSaid : Prop := fnExactPlayAllRow.holds Try.pinned (OpenSpec.ofChange fnExactPlayAllSpec)

/-- ITS FALSE NEIGHBOUR: 'it returns false'. Refute it at one input. -/
def fnExactPlayAllWrong : ChangeSpec := { name := "fnExactPlayAll", fn := fun _ => fun
  | [d1, d2, d3] => { results := [.lit (.bool false)], args := [d1, d2, d3] }
  | _ => none }
def FnExactPlayAllWrongFalsely : Prop := fnExactPlayAllRow.holds Try.pinned (OpenSpec.ofChange fnExactPlayAllWrong)

/-- 'laws.FnExactUndoAll': WHATEVER THE INPUT: true; the input reads as it did. -/
def fnExactUndoAllSpec : ChangeSpec := { name := "fnExactUndoAll", fn := fun _ => fun
  | [d1, d2, d3] => { results := [.lit (.bool true)], args := [d1, d2, d3] }
  | _ => none }
def fnExactUndoAllRow : OpenClaim := { program := "ytmnnpfgmdojpmaa", sum := "a98231c4e9d0198899927018a6f433c122edd6f58f77ae205692e3ecb39db4d8", func := "loop.example/g03302/laws.FnExactUndoAll", spec := "fnExactUndoAll", apart := false }
def FnExactUndoAllSaid : Prop := fnExactUndoAllRow.holds Try.pinned (OpenSpec.ofChange fnExactUndoAllSpec)

/-- ITS FALSE NEIGHBOUR: 'it returns false'. Refute it at one input. -/
def fnExactUndoAllWrong : ChangeSpec := { name := "fnExactUndoAll", fn := fun _ => fun
  | [d1, d2, d3] => { results := [.lit (.bool false)], args := [d1, d2, d3] }
  | _ => none }
def FnExactUndoAllWrongFalsely : Prop := fnExactUndoAllRow.holds Try.pinned (OpenSpec.ofChange fnExactUndoAllWrong)

/-- 'laws.FnExactIsSolution': WHATEVER THE INPUT: true; the input reads as it did. -/
def fnExactIsSolutionSpec : ChangeSpec := { name := "fnExactIsSolution", fn := fun _ => fun
  | [d1, d2, d3, d4] => { results := [.lit (.bool true)], args := [d1, d2, d3, d4] }
  | _ => none }
def fnExactIsSolutionRow : OpenClaim := { program := "ytmnnpfgmdojpmaa", sum := "a98231c4e9d0198899927018a6f433c122edd6f58f77ae205692e3ecb39db4d8", func := "loop.example/g03302/laws.FnExactIsSolution", spec := "fnExactIsSolution", apart := false }
def FnExactIsSolutionSaid : Prop := fnExactIsSolutionRow.holds Try.pinned (OpenSpec.ofChange fnExactIsSolutionSpec)

/-- ITS FALSE NEIGHBOUR: 'it returns false'. Refute it at one input. -/
def fnExactIsSolutionWrong : ChangeSpec := { name := "fnExactIsSolution", fn := fun _ => fun
  | [d1, d2, d3, d4] => { results := [.lit (.bool false)], args := [d1, d2, d3, d4] }
  | _ => none }
def FnExactIsSolutionWrongFalsely : Prop := fnExactIsSolutionRow.holds Try.pinned (OpenSpec.ofChange fnExactIsSolutionWrong)

/-- 'laws.FnExactPositionsOf': WHATEVER THE INPUT: true; the input reads as it did. -/
def fnExactPositionsOfSpec : ChangeSpec := { name := "fnExactPositionsOf", fn := fun _ => fun
  | [d1, d2, d3] => { results := [.lit (.bool true)], args := [d1, d2, d3] }
  | _ => none }
def fnExactPositionsOfRow : OpenClaim := { program := "ytmnnpfgmdojpmaa", sum := "a98231c4e9d0198899927018a6f433c122edd6f58f77ae205692e3ecb39db4d8", func := "loop.example/g03302/laws.FnExactPositionsOf", spec := "fnExactPositionsOf", apart := false }
def FnExactPositionsOfSaid : Prop := fnExactPositionsOfRow.holds Try.pinned (OpenSpec.ofChange fnExactPositionsOfSpec)

/-- ITS FALSE NEIGHBOUR: 'it returns false'. Refute it at one input. -/
def fnExactPositionsOfWrong : ChangeSpec := { name := "fnExactPositionsOf", fn := fun _ => fun
  | [d1, d2, d3] => { results := [.lit (.bool false)], args := [d1, d2, d3] }
  | _ => none }
def FnExactPositionsOfWrongFalsely : Prop := fnExactPositionsOfRow.holds Try.pinned (OpenSpec.ofChange fnExactPositionsOfWrong)

/- THE SECOND FORM. 'bulk': how many values and letters a reading holds, each counted each time it is reached (what is shared counts as often as it is met; a slice's spare places count too). A statement '..UptoSaid' is the law's where the arguments, and the package variables that the reading takes, are together of bulk at most 1048576: NARROWER than '..Said'. Prove '..Said' where nothing that the law and all that it calls make is longer than what came in: it says more and counts as full. Else prove '..UptoSaid'. A law counts once. -/
mutual
def uptoBulk {H : Type} : DataW H → Nat
  | .lit (.string bytes) => bytes.length + 1
  | .lit _ => 1
  | .nil => 1
  | .ptr d => uptoBulk d + 1
  | .slice elems spare => uptoBulkAll elems + uptoBulkAll spare + 1
  | .agg parts => uptoBulkAll parts + 1
  | .iface _ d => uptoBulk d + 1
  | .map entries => uptoBulkEntries entries + 1
  | .held _ => 1
def uptoBulkAll {H : Type} : List (DataW H) → Nat
  | [] => 0
  | d :: r => uptoBulk d + uptoBulkAll r
def uptoBulkEntries {H : Type} : List (Lit × DataW H) → Nat
  | [] => 0
  | x :: r => uptoBulkEntry x + uptoBulkEntries r
def uptoBulkEntry {H : Type} : Lit × DataW H → Nat
  | (.string bytes, d) => bytes.length + uptoBulk d + 1
  | (_, d) => uptoBulk d + 1
 end
def uptoSmall : (H : Type) → List (DataW H) → Bool := fun _ ds => decide (uptoBulkAll ds ≤ 1048576)
def OpenSpec.upto (s : _root_.Go.ChangeSpec) : _root_.Go.OpenSpec := { _root_.Go.OpenSpec.ofChange s with cond := some uptoSmall }

/-- 'laws.FnExactCountSweeps', WHERE WHAT IT READS IS OF BULK AT MOST 1048576: true; the input reads as it did. -/
def fnExactCountSweepsUptoRow : OpenClaim := { program := "ytmnnpfgmdojpmaa", sum := "a98231c4e9d0198899927018a6f433c122edd6f58f77ae205692e3ecb39db4d8", func := "loop.example/g03302/laws.FnExactCountSweeps", spec := "fnExactCountSweeps", apart := false, narrowed := true }
def FnExactCountSweepsUptoSaid : Prop := fnExactCountSweepsUptoRow.holds Try.pinned (OpenSpec.upto fnExactCountSweepsSpec)

/-- 'laws.FnExactClassOf', WHERE WHAT IT READS IS OF BULK AT MOST 1048576: true; the input reads as it did. -/
def fnExactClassOfUptoRow : OpenClaim := { program := "ytmnnpfgmdojpmaa", sum := "a98231c4e9d0198899927018a6f433c122edd6f58f77ae205692e3ecb39db4d8", func := "loop.example/g03302/laws.FnExactClassOf", spec := "fnExactClassOf", apart := false, narrowed := true }
def FnExactClassOfUptoSaid : Prop := fnExactClassOfUptoRow.holds Try.pinned (OpenSpec.upto fnExactClassOfSpec)

/-- 'laws.FnExactKeyNumber', WHERE WHAT IT READS IS OF BULK AT MOST 1048576: true; the input reads as it did. -/
def fnExactKeyNumberUptoRow : OpenClaim := { program := "ytmnnpfgmdojpmaa", sum := "a98231c4e9d0198899927018a6f433c122edd6f58f77ae205692e3ecb39db4d8", func := "loop.example/g03302/laws.FnExactKeyNumber", spec := "fnExactKeyNumber", apart := false, narrowed := true }
def FnExactKeyNumberUptoSaid : Prop := fnExactKeyNumberUptoRow.holds Try.pinned (OpenSpec.upto fnExactKeyNumberSpec)

/-- 'laws.FnExactSameKey', WHERE WHAT IT READS IS OF BULK AT MOST 1048576: true; the input reads as it did. -/
def fnExactSameKeyUptoRow : OpenClaim := { program := "ytmnnpfgmdojpmaa", sum := "a98231c4e9d0198899927018a6f433c122edd6f58f77ae205692e3ecb39db4d8", func := "loop.example/g03302/laws.FnExactSameKey", spec := "fnExactSameKey", apart := false, narrowed := true }
def FnExactSameKeyUptoSaid : Prop := fnExactSameKeyUptoRow.holds Try.pinned (OpenSpec.upto fnExactSameKeySpec)

/-- 'laws.FnExactKeyOf', WHERE WHAT IT READS IS OF BULK AT MOST 1048576: true; the input reads as it did. -/
def fnExactKeyOfUptoRow : OpenClaim := { program := "ytmnnpfgmdojpmaa", sum := "a98231c4e9d0198899927018a6f433c122edd6f58f77ae205692e3ecb39db4d8", func := "loop.example/g03302/laws.FnExactKeyOf", spec := "fnExactKeyOf", apart := false, narrowed := true }
def FnExactKeyOfUptoSaid : Prop := fnExactKeyOfUptoRow.holds Try.pinned (OpenSpec.upto fnExactKeyOfSpec)

/-- 'laws.FnExactFinalHoles', WHERE WHAT IT READS IS OF BULK AT MOST 1048576: true; the input reads as it did. -/
def fnExactFinalHolesUptoRow : OpenClaim := { program := "ytmnnpfgmdojpmaa", sum := "a98231c4e9d0198899927018a6f433c122edd6f58f77ae205692e3ecb39db4d8", func := "loop.example/g03302/laws.FnExactFinalHoles", spec := "fnExactFinalHoles", apart := false, narrowed := true }
def FnExactFinalHolesUptoSaid : Prop := fnExactFinalHolesUptoRow.holds Try.pinned (OpenSpec.upto fnExactFinalHolesSpec)

/-- 'laws.FnExactPlayAll', WHERE WHAT IT READS IS OF BULK AT MOST 1048576: true; the input reads as it did. -/
def fnExactPlayAllUptoRow : OpenClaim := { program := "ytmnnpfgmdojpmaa", sum := "a98231c4e9d0198899927018a6f433c122edd6f58f77ae205692e3ecb39db4d8", func := "loop.example/g03302/laws.FnExactPlayAll", spec := "fnExactPlayAll", apart := false, narrowed := true }
def FnExactPlayAllUptoSaid : Prop := fnExactPlayAllUptoRow.holds Try.pinned (OpenSpec.upto fnExactPlayAllSpec)

/-- 'laws.FnExactUndoAll', WHERE WHAT IT READS IS OF BULK AT MOST 1048576: true; the input reads as it did. -/
def fnExactUndoAllUptoRow : OpenClaim := { program := "ytmnnpfgmdojpmaa", sum := "a98231c4e9d0198899927018a6f433c122edd6f58f77ae205692e3ecb39db4d8", func := "loop.example/g03302/laws.FnExactUndoAll", spec := "fnExactUndoAll", apart := false, narrowed := true }
def FnExactUndoAllUptoSaid : Prop := fnExactUndoAllUptoRow.holds Try.pinned (OpenSpec.upto fnExactUndoAllSpec)

/-- 'laws.FnExactIsSolution', WHERE WHAT IT READS IS OF BULK AT MOST 1048576: true; the input reads as it did. -/
def fnExactIsSolutionUptoRow : OpenClaim := { program := "ytmnnpfgmdojpmaa", sum := "a98231c4e9d0198899927018a6f433c122edd6f58f77ae205692e3ecb39db4d8", func := "loop.example/g03302/laws.FnExactIsSolution", spec := "fnExactIsSolution", apart := false, narrowed := true }
def FnExactIsSolutionUptoSaid : Prop := fnExactIsSolutionUptoRow.holds Try.pinned (OpenSpec.upto fnExactIsSolutionSpec)

/-- 'laws.FnExactPositionsOf', WHERE WHAT IT READS IS OF BULK AT MOST 1048576: true; the input reads as it did. -/
def fnExactPositionsOfUptoRow : OpenClaim := { program := "ytmnnpfgmdojpmaa", sum := "a98231c4e9d0198899927018a6f433c122edd6f58f77ae205692e3ecb39db4d8", func := "loop.example/g03302/laws.FnExactPositionsOf", spec := "fnExactPositionsOf", apart := false, narrowed := true }
def FnExactPositionsOfUptoSaid : Prop := fnExactPositionsOfUptoRow.holds Try.pinned (OpenSpec.upto fnExactPositionsOfSpec)

end Rows
end Go.Proofs.Ytmnnpfgmdojpmaa
