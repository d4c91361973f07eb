/-
  The closed facts on the cut's head (one text of words): asked once, by its first signs; what stands behind the word 'cut' is never looked at.
-/
import Derived.Test.YtoipnooncnpndaaRows
import Derived.JoinedOf
import Derived.KernelRfl
namespace Go.Proofs.Ytoipnooncnpndaa
open Go
def headCodes : List Nat := [104, 97, 114, 110, 101, 115, 115, 32, 56, 54, 55, 48, 99, 97, 51, 48, 51, 53, 97, 99, 56, 101, 53, 54, 98, 98, 52, 48, 53, 57, 99, 97, 57, 48, 54, 97, 51, 50, 57, 99, 97, 99, 48, 51, 101, 55, 54, 101, 102, 51, 102, 100, 54, 101, 55, 99, 50, 56, 56, 49, 98, 99, 100, 102, 52, 97, 49, 56, 97, 51, 57, 56, 32, 99, 117, 116, 32]
def tailCodes : List Nat := [97, 116, 32, 108, 111, 111, 112, 46, 101, 120, 97, 109, 112, 108, 101, 47, 103, 48, 51, 51, 48, 50, 47, 108, 97, 119, 115, 46, 70, 110, 69, 120, 97, 99, 116, 80, 111, 115, 105, 116, 105, 111, 110, 84, 101, 120, 116, 32, 108, 111, 111, 112, 46, 101, 120, 97, 109, 112, 108, 101, 47, 103, 48, 51, 51, 48, 50, 47, 108, 97, 119, 115, 46, 70, 110, 76, 105, 110, 101, 115, 32, 108, 111, 111, 112, 46, 101, 120, 97, 109, 112, 108, 101, 47, 103, 48, 51, 51, 48, 50, 47, 108, 97, 119, 115, 46, 70, 110, 80, 111, 115, 105, 116, 105, 111, 110, 115, 32, 108, 111, 111, 112, 46, 101, 120, 97, 109, 112, 108, 101, 47, 103, 48, 51, 51, 48, 50, 47, 108, 97, 119, 115, 46, 70, 110, 74, 117, 109, 112, 115, 32, 108, 111, 111, 112, 46, 101, 120, 97, 109, 112, 108, 101, 47, 103, 48, 51, 51, 48, 50, 47, 108, 97, 119, 115, 46, 70, 110, 75, 101, 121, 115, 32, 108, 111, 111, 112, 46, 101, 120, 97, 109, 112, 108, 101, 47, 103, 48, 51, 51, 48, 50, 47, 108, 97, 119, 115, 46, 70, 110, 71, 97, 109, 101, 115]
theorem headWord : Try.prog.initOrder = String.ofList ((headCodes ++ tailCodes).map Char.ofNat) := by kernel_rfl
theorem headList : Try.prog.initOrder.toList = headCodes.map Char.ofNat ++ tailCodes.map Char.ofNat := by rw [headWord, String.toList_ofList, List.map_append]
def cutWord : List Char := [99, 117, 116].map Char.ofNat
theorem words (T : List Char) : behindMainWord (wordsSigns (headCodes.map Char.ofNat ++ T)) = cutWord :: wordsSigns T := by kernel_rfl
theorem strip (W : List (List Char)) : stripLifts liftWords (cutWord :: W) = ([], cutWord :: W) := by kernel_rfl
theorem isCut : cutWord = "cut".toList := by kernel_rfl
theorem notGc : (cutWord == "gc".toList) = false := by kernel_rfl
theorem notSpec : (cutWord == "spec".toList) = false := by kernel_rfl
theorem notCarried : (cutWord == "carried".toList) = false := by kernel_rfl
theorem laysLater : Try.prog.laysLater = false := by kernel_rfl
theorem bearsReflect : Try.prog.bearsReflect = false := by kernel_rfl
theorem doorFits : Try.prog.doorFits [] = true := by kernel_rfl
theorem enter_of (P : Program) (T : List Char) (h : P.initOrder.toList = headCodes.map Char.ofNat ++ T) (h1 : P.laysLater = false) (h2 : P.bearsReflect = false) (h3 : P.doorFits [] = true) : P.mayEnter = true := by
  unfold Program.mayEnter
  rw [h, words T]
  simp only [strip, notGc, notSpec, notCarried, h1, h2, h3]
  rw [← isCut]
  simp
theorem mayEnter : Try.prog.mayEnter = true := enter_of _ _ headList laysLater bearsReflect doorFits
theorem lifts_of (P : Program) (T : List Char) (h : P.initOrder.toList = headCodes.map Char.ofNat ++ T) : P.headLifts = [] := by
  unfold Program.headLifts
  rw [h, words T]
  simp only [strip]
  simp
theorem final_of (P : Program) (T : List Char) (h : P.initOrder.toList = headCodes.map Char.ofNat ++ T) : P.liftsFinal = false := by
  have hl := lifts_of P T h
  unfold Program.liftsFinal
  rw [h, words T, hl]
  have e : (some cutWord == some "carried".toList) = false := by rw [show (some cutWord == some "carried".toList) = (cutWord == "carried".toList) from rfl]; exact notCarried
  simp only [List.head?_cons, e]
  simp
theorem liftsFinal : Try.prog.liftsFinal = false := final_of _ _ headList
theorem make_of (P : Program) (T : List Char) (h : P.initOrder.toList = headCodes.map Char.ofNat ++ T) : P.make = some .cut := by
  unfold Program.make
  rw [h, words T]
  simp only [notGc, notSpec]
  rw [← isCut]
  simp
theorem makeCut : Try.prog.make = some .cut := make_of _ _ headList
end Go.Proofs.Ytoipnooncnpndaa
