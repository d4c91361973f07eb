/-
  The closed facts on the cut's head (one text of words): asked once, by its first signs; what stands behind the word 'cut' is never looked at.
-/
import Derived.Test.YtnnoahoepljejaaDoorRows
import Derived.JoinedOf
import Derived.KernelRfl
namespace Go.Proofs.YtnnoahoepljejaaDoor
open Go
def headCodes : List Nat := [104, 97, 114, 110, 101, 115, 115, 32, 49, 97, 100, 99, 51, 52, 53, 57, 98, 53, 49, 101, 54, 51, 55, 50, 50, 55, 56, 52, 101, 53, 100, 48, 53, 57, 101, 98, 50, 52, 53, 99, 49, 51, 51, 55, 101, 97, 100, 48, 48, 99, 101, 97, 100, 57, 52, 99, 102, 57, 48, 50, 99, 99, 50, 102, 97, 56, 50, 98, 52, 102, 54, 102, 32, 99, 117, 116, 32]
def tailCodes : List Nat := [97, 116, 32, 108, 111, 111, 112, 46, 101, 120, 97, 109, 112, 108, 101, 47, 103, 48, 51, 51, 48, 50, 47, 108, 97, 119, 115, 46, 70, 110, 66, 111, 97, 114, 100, 115, 32, 108, 111, 111, 112, 46, 101, 120, 97, 109, 112, 108, 101, 47, 103, 48, 51, 51, 48, 50, 47, 108, 97, 119, 115, 46, 70, 110, 69, 120, 97, 99, 116, 80, 97, 114, 115, 101, 85, 105, 110, 116, 32, 108, 111, 111, 112, 46, 101, 120, 97, 109, 112, 108, 101, 47, 103, 48, 51, 51, 48, 50, 47, 108, 97, 119, 115, 46, 70, 110, 78, 117, 109, 98, 101, 114, 115, 32, 108, 111, 111, 112, 46, 101, 120, 97, 109, 112, 108, 101, 47, 103, 48, 51, 51, 48, 50, 47, 108, 97, 119, 115, 46, 70, 110, 69, 120, 97, 99, 116, 70, 111, 114, 109, 97, 116, 73, 110, 116, 32, 108, 111, 111, 112, 46, 101, 120, 97, 109, 112, 108, 101, 47, 103, 48, 51, 51, 48, 50, 47, 108, 97, 119, 115, 46, 70, 110, 69, 120, 97, 99, 116, 72, 111, 108, 101, 78, 97, 109, 101, 32, 108, 111, 111, 112, 46, 101, 120, 97, 109, 112, 108, 101, 47, 103, 48, 51, 51, 48, 50, 47, 108, 97, 119, 115, 46, 70, 110, 72, 101, 120, 84, 101, 120, 116, 32, 108, 111, 111, 112, 46, 101, 120, 97, 109, 112, 108, 101, 47, 103, 48, 51, 51, 48, 50, 47, 108, 97, 119, 115, 46, 70, 110, 70, 105, 101, 108, 100, 115, 65, 103, 97, 105, 110]
theorem headWord : Tryd.prog.initOrder = String.ofList ((headCodes ++ tailCodes).map Char.ofNat) := by kernel_rfl
theorem headList : Tryd.prog.initOrder.toList = headCodes.map Char.ofNat ++ tailCodes.map Char.ofNat := by rw [headWord, String.toList_ofList, List.map_append]
def cutWord : List Char := [99, 117, 116].map Char.ofNat
theorem words (T : List Char) : behindMainWord (wordsSigns (headCodes.map Char.ofNat ++ T)) = cutWord :: wordsSigns T := by kernel_rfl
theorem strip (W : List (List Char)) : stripLifts liftWords (cutWord :: W) = ([], cutWord :: W) := by kernel_rfl
theorem isCut : cutWord = "cut".toList := by kernel_rfl
theorem notGc : (cutWord == "gc".toList) = false := by kernel_rfl
theorem notSpec : (cutWord == "spec".toList) = false := by kernel_rfl
theorem notCarried : (cutWord == "carried".toList) = false := by kernel_rfl
theorem laysLater : Tryd.prog.laysLater = false := by kernel_rfl
theorem bearsReflect : Tryd.prog.bearsReflect = false := by kernel_rfl
theorem doorFits : Tryd.prog.doorFits [] = true := by kernel_rfl
theorem enter_of (P : Program) (T : List Char) (h : P.initOrder.toList = headCodes.map Char.ofNat ++ T) (h1 : P.laysLater = false) (h2 : P.bearsReflect = false) (h3 : P.doorFits [] = true) : P.mayEnter = true := by
  unfold Program.mayEnter
  rw [h, words T]
  simp only [strip, notGc, notSpec, notCarried, h1, h2, h3]
  rw [← isCut]
  simp
theorem mayEnter : Tryd.prog.mayEnter = true := enter_of _ _ headList laysLater bearsReflect doorFits
theorem lifts_of (P : Program) (T : List Char) (h : P.initOrder.toList = headCodes.map Char.ofNat ++ T) : P.headLifts = [] := by
  unfold Program.headLifts
  rw [h, words T]
  simp only [strip]
  simp
theorem final_of (P : Program) (T : List Char) (h : P.initOrder.toList = headCodes.map Char.ofNat ++ T) : P.liftsFinal = false := by
  have hl := lifts_of P T h
  unfold Program.liftsFinal
  rw [h, words T, hl]
  have e : (some cutWord == some "carried".toList) = false := by rw [show (some cutWord == some "carried".toList) = (cutWord == "carried".toList) from rfl]; exact notCarried
  simp only [List.head?_cons, e]
  simp
theorem liftsFinal : Tryd.prog.liftsFinal = false := final_of _ _ headList
theorem make_of (P : Program) (T : List Char) (h : P.initOrder.toList = headCodes.map Char.ofNat ++ T) : P.make = some .cut := by
  unfold Program.make
  rw [h, words T]
  simp only [notGc, notSpec]
  rw [← isCut]
  simp
theorem makeCut : Tryd.prog.make = some .cut := make_of _ _ headList
end Go.Proofs.YtnnoahoepljejaaDoor
