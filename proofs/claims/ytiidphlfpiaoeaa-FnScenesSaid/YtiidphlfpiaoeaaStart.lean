/- How the program says where it may be entered: read off its head word by word, not by one great reckoning (that takes minutes and 10 GB where the head is long); conditions: none. -/
import Derived.Test.YtiidphlfpiaoeaaChecked
import Derived.JoinedOf
import Derived.RowKit
namespace Go.Proofs.Ytiidphlfpiaoeaa
set_option maxRecDepth 100000

theorem words_cons (w r : List Char) (h : ∀ c ∈ w, c ≠ ' ') : wordsSigns (w ++ ' ' :: r) = w :: wordsSigns r := by
  induction w with
  | nil => simp [wordsSigns]
  | cons c w ih =>
    have h1 := h c (by simp)
    have h2 := ih fun d hd => h d (by simp [hd])
    rw [List.cons_append, wordsSigns, h2]
    simpa using h1
def w1 : List Char := ['h', 'a', 'r', 'n', 'e', 's', 's']
def w2 : List Char := ['b', '0', '8', 'b', 'a', '9', '9', '5', 'c', 'f', '0', '1', '8', 'd', '1', '1', 'f', '0', 'a', 'd', '8', '3', '5', 'f', '8', 'c', 'e', 'f', '3', '0', 'd', 'f', 'e', 'a', '5', 'a', '2', '9', '5', 'c', 'c', '8', '9', 'a', 'a', 'd', 'e', 'a', 'f', '6', '7', 'd', 'e', 'b', '9', '5', 'c', 'f', '2', 'c', 'e', '4', 'd', '8']
def w3 : List Char := ['c', 'u', 't']
def w4 : List Char := ['a', 't', ' ', 'l', 'o', 'o', 'p', '.', 'e', 'x', 'a', 'm', 'p', 'l', 'e', '/', 'g', '0', '1', '1', '4', '1', '/', 'l', 'a', 'w', 's', '.', 'F', 'n', 'E', 'x', 'a', 'c', 't', 'J', 'o', 'i', 'n', 'S', 'c', 'e', 'n', 'e', 's', ' ', 'l', 'o', 'o', 'p', '.', 'e', 'x', 'a', 'm', 'p', 'l', 'e', '/', 'g', '0', '1', '1', '4', '1', '/', 'l', 'a', 'w', 's', '.', 'F', 'n', 'S', 'c', 'e', 'n', 'e', 's', ' ', 'l', 'o', 'o', 'p', '.', 'e', 'x', 'a', 'm', 'p', 'l', 'e', '/', 'g', '0', '1', '1', '4', '1', '/', 'l', 'a', 'w', 's', '.', 'F', 'n', 'S', 'c', 'e', 'n', 'e', 's', 'M', 'a', 'd', 'e']
theorem words : wordsSigns Try.checked.prog.initOrder.toList = w1 :: w2 :: w3 :: wordsSigns w4 := by
  have e : Try.checked.prog.initOrder = String.ofList (w1 ++ ' ' :: (w2 ++ ' ' :: (w3 ++ ' ' :: w4))) := by
    have e1 : (w1 ++ ' ' :: (w2 ++ ' ' :: (w3 ++ ' ' :: w4))) = ['h', 'a', 'r', 'n', 'e', 's', 's', ' ', 'b', '0', '8', 'b', 'a', '9', '9', '5', 'c', 'f', '0', '1', '8', 'd', '1', '1', 'f', '0', 'a', 'd', '8', '3', '5', 'f', '8', 'c', 'e', 'f', '3', '0', 'd', 'f', 'e', 'a', '5', 'a', '2', '9', '5', 'c', 'c', '8', '9', 'a', 'a', 'd', 'e', 'a', 'f', '6', '7', 'd', 'e', 'b', '9', '5', 'c', 'f', '2', 'c', 'e', '4', 'd', '8', ' ', 'c', 'u', 't', ' ', 'a', 't', ' ', 'l', 'o', 'o', 'p', '.', 'e', 'x', 'a', 'm', 'p', 'l', 'e', '/', 'g', '0', '1', '1', '4', '1', '/', 'l', 'a', 'w', 's', '.', 'F', 'n', 'E', 'x', 'a', 'c', 't', 'J', 'o', 'i', 'n', 'S', 'c', 'e', 'n', 'e', 's', ' ', 'l', 'o', 'o', 'p', '.', 'e', 'x', 'a', 'm', 'p', 'l', 'e', '/', 'g', '0', '1', '1', '4', '1', '/', 'l', 'a', 'w', 's', '.', 'F', 'n', 'S', 'c', 'e', 'n', 'e', 's', ' ', 'l', 'o', 'o', 'p', '.', 'e', 'x', 'a', 'm', 'p', 'l', 'e', '/', 'g', '0', '1', '1', '4', '1', '/', 'l', 'a', 'w', 's', '.', 'F', 'n', 'S', 'c', 'e', 'n', 'e', 's', 'M', 'a', 'd', 'e'] := by kernel_rfl
    rw [e1]; exact (by kernel_rfl : _ = _)
  rw [e, String.toList_ofList, words_cons _ _ (by decide), words_cons _ _ (by decide), words_cons _ _ (by decide)]
theorem b (x : List (List Char)) : behindMainWord (w1 :: w2 :: w3 :: x) = w3 :: x := by kernel_rfl
theorem make_of {P : Program} {x : List (List Char)} (h : behindMainWord (wordsSigns P.initOrder.toList) = w3 :: x) : P.make = some .cut := by
  unfold Program.make; rw [h]; rfl
theorem lifts_of {P : Program} {x : List (List Char)} (h : behindMainWord (wordsSigns P.initOrder.toList) = w3 :: x) : P.liftsFinal = false := by
  unfold Program.liftsFinal Program.headLifts; rw [h]; kernel_rfl
theorem enter_of {P : Program} {x : List (List Char)} (h : behindMainWord (wordsSigns P.initOrder.toList) = w3 :: x) (h1 : P.laysLater = false) (h2 : P.bearsReflect = false) (h3 : P.doorFits [] = true) : P.mayEnter = true := by
  unfold Program.mayEnter; rw [h]
  simp only [h1, h2]
  have e : stripLifts liftWords (w3 :: x) = ([], w3 :: x) := by kernel_rfl
  simp only [e, h3]
  rfl
theorem behind : behindMainWord (wordsSigns Try.checked.prog.initOrder.toList) = w3 :: wordsSigns w4 := (congrArg behindMainWord words).trans (b _)
theorem enters : Try.checked.prog.mayEnter = true := enter_of behind (by kernel_rfl) (by kernel_rfl) (by kernel_rfl)
theorem lifts : Try.checked.prog.liftsFinal = false := lifts_of behind
theorem makes : Try.checked.prog.make = some .cut := make_of behind

end Go.Proofs.Ytiidphlfpiaoeaa
