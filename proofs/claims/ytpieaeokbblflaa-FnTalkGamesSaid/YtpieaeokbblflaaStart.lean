/- How the program says where it may be entered: read off its head word by word, not by one great reckoning (that takes minutes and 10 GB where the head is long); conditions: none. -/
import Derived.Test.YtpieaeokbblflaaChecked
import Derived.JoinedOf
import Derived.RowKit
namespace Go.Proofs.Ytpieaeokbblflaa
set_option maxRecDepth 100000

theorem words_cons (w r : List Char) (h : ∀ c ∈ w, c ≠ ' ') : wordsSigns (w ++ ' ' :: r) = w :: wordsSigns r := by
  induction w with
  | nil => simp [wordsSigns]
  | cons c w ih =>
    have h1 := h c (by simp)
    have h2 := ih fun d hd => h d (by simp [hd])
    rw [List.cons_append, wordsSigns, h2]
    simpa using h1
def w1 : List Char := ['h', 'a', 'r', 'n', 'e', 's', 's']
def w2 : List Char := ['a', 'b', '6', '8', 'a', 'b', 'a', '2', '7', '2', '3', '5', '3', 'c', '6', '6', '7', '8', '6', '4', 'c', '5', '4', 'b', '1', '6', '8', '4', 'b', '4', 'e', 'f', '0', '6', 'a', 'b', '9', 'd', '6', '6', 'b', '6', '7', 'e', 'a', '3', '6', 'e', 'c', '4', '0', 'd', '5', '7', 'a', '2', 'a', '3', 'a', '0', '6', '2', '4', 'd']
def w3 : List Char := ['c', 'u', 't']
def w4 : List Char := ['a', 't', ' ', 'l', 'o', 'o', 'p', '.', 'e', 'x', 'a', 'm', 'p', 'l', 'e', '/', 'g', '0', '1', '1', '4', '1', '/', 'l', 'a', 'w', 's', '.', 'F', 'n', 'E', 'x', 'a', 'c', 't', 'N', 'e', 'e', 'd', 'O', 'f', ' ', 'l', 'o', 'o', 'p', '.', 'e', 'x', 'a', 'm', 'p', 'l', 'e', '/', 'g', '0', '1', '1', '4', '1', '/', 'l', 'a', 'w', 's', '.', 'F', 'n', 'E', 'x', 'a', 'c', 't', 'C', 'o', 'v', 'e', 'r', 'N', 'u', 'm', 'b', 'e', 'r', ' ', 'l', 'o', 'o', 'p', '.', 'e', 'x', 'a', 'm', 'p', 'l', 'e', '/', 'g', '0', '1', '1', '4', '1', '/', 'l', 'a', 'w', 's', '.', 'F', 'n', 'E', 'x', 'a', 'c', 't', 'F', 'i', 'r', 's', 't', 'S', 'p', 'l', 'i', 't', ' ', 'l', 'o', 'o', 'p', '.', 'e', 'x', 'a', 'm', 'p', 'l', 'e', '/', 'g', '0', '1', '1', '4', '1', '/', 'l', 'a', 'w', 's', '.', 'F', 'n', 'E', 'x', 'a', 'c', 't', 'B', 'e', 's', 't', 'T', 'a', 'l', 'k', ' ', 'l', 'o', 'o', 'p', '.', 'e', 'x', 'a', 'm', 'p', 'l', 'e', '/', 'g', '0', '1', '1', '4', '1', '/', 'l', 'a', 'w', 's', '.', 'F', 'n', 'T', 'a', 'l', 'k', 'G', 'a', 'm', 'e', 's', ' ', 'l', 'o', 'o', 'p', '.', 'e', 'x', 'a', 'm', 'p', 'l', 'e', '/', 'g', '0', '1', '1', '4', '1', '/', 'l', 'a', 'w', 's', '.', 'F', 'n', 'T', 'a', 'l', 'k', 's', ' ', 'l', 'o', 'o', 'p', '.', 'e', 'x', 'a', 'm', 'p', 'l', 'e', '/', 'g', '0', '1', '1', '4', '1', '/', 'l', 'a', 'w', 's', '.', 'F', 'n', 'R', 'e', 'c', 't', 'a', 'n', 'g', 'l', 'e', 's']
theorem words : wordsSigns Try.checked.prog.initOrder.toList = w1 :: w2 :: w3 :: wordsSigns w4 := by
  have e : Try.checked.prog.initOrder = String.ofList (w1 ++ ' ' :: (w2 ++ ' ' :: (w3 ++ ' ' :: w4))) := by
    have e1 : (w1 ++ ' ' :: (w2 ++ ' ' :: (w3 ++ ' ' :: w4))) = ['h', 'a', 'r', 'n', 'e', 's', 's', ' ', 'a', 'b', '6', '8', 'a', 'b', 'a', '2', '7', '2', '3', '5', '3', 'c', '6', '6', '7', '8', '6', '4', 'c', '5', '4', 'b', '1', '6', '8', '4', 'b', '4', 'e', 'f', '0', '6', 'a', 'b', '9', 'd', '6', '6', 'b', '6', '7', 'e', 'a', '3', '6', 'e', 'c', '4', '0', 'd', '5', '7', 'a', '2', 'a', '3', 'a', '0', '6', '2', '4', 'd', ' ', 'c', 'u', 't', ' ', 'a', 't', ' ', 'l', 'o', 'o', 'p', '.', 'e', 'x', 'a', 'm', 'p', 'l', 'e', '/', 'g', '0', '1', '1', '4', '1', '/', 'l', 'a', 'w', 's', '.', 'F', 'n', 'E', 'x', 'a', 'c', 't', 'N', 'e', 'e', 'd', 'O', 'f', ' ', 'l', 'o', 'o', 'p', '.', 'e', 'x', 'a', 'm', 'p', 'l', 'e', '/', 'g', '0', '1', '1', '4', '1', '/', 'l', 'a', 'w', 's', '.', 'F', 'n', 'E', 'x', 'a', 'c', 't', 'C', 'o', 'v', 'e', 'r', 'N', 'u', 'm', 'b', 'e', 'r', ' ', 'l', 'o', 'o', 'p', '.', 'e', 'x', 'a', 'm', 'p', 'l', 'e', '/', 'g', '0', '1', '1', '4', '1', '/', 'l', 'a', 'w', 's', '.', 'F', 'n', 'E', 'x', 'a', 'c', 't', 'F', 'i', 'r', 's', 't', 'S', 'p', 'l', 'i', 't', ' ', 'l', 'o', 'o', 'p', '.', 'e', 'x', 'a', 'm', 'p', 'l', 'e', '/', 'g', '0', '1', '1', '4', '1', '/', 'l', 'a', 'w', 's', '.', 'F', 'n', 'E', 'x', 'a', 'c', 't', 'B', 'e', 's', 't', 'T', 'a', 'l', 'k', ' ', 'l', 'o', 'o', 'p', '.', 'e', 'x', 'a', 'm', 'p', 'l', 'e', '/', 'g', '0', '1', '1', '4', '1', '/', 'l', 'a', 'w', 's', '.', 'F', 'n', 'T', 'a', 'l', 'k', 'G', 'a', 'm', 'e', 's', ' ', 'l', 'o', 'o', 'p', '.', 'e', 'x', 'a', 'm', 'p', 'l', 'e', '/', 'g', '0', '1', '1', '4', '1', '/', 'l', 'a', 'w', 's', '.', 'F', 'n', 'T', 'a', 'l', 'k', 's', ' ', 'l', 'o', 'o', 'p', '.', 'e', 'x', 'a', 'm', 'p', 'l', 'e', '/', 'g', '0', '1', '1', '4', '1', '/', 'l', 'a', 'w', 's', '.', 'F', 'n', 'R', 'e', 'c', 't', 'a', 'n', 'g', 'l', 'e', 's'] := by kernel_rfl
    rw [e1]; exact (by kernel_rfl : _ = _)
  rw [e, String.toList_ofList, words_cons _ _ (by decide), words_cons _ _ (by decide), words_cons _ _ (by decide)]
theorem b (x : List (List Char)) : behindMainWord (w1 :: w2 :: w3 :: x) = w3 :: x := by kernel_rfl
theorem make_of {P : Program} {x : List (List Char)} (h : behindMainWord (wordsSigns P.initOrder.toList) = w3 :: x) : P.make = some .cut := by
  unfold Program.make; rw [h]; rfl
theorem lifts_of {P : Program} {x : List (List Char)} (h : behindMainWord (wordsSigns P.initOrder.toList) = w3 :: x) : P.liftsFinal = false := by
  unfold Program.liftsFinal Program.headLifts; rw [h]; kernel_rfl
theorem enter_of {P : Program} {x : List (List Char)} (h : behindMainWord (wordsSigns P.initOrder.toList) = w3 :: x) (h1 : P.laysLater = false) (h2 : P.bearsReflect = false) (h3 : P.doorFits [] = true) : P.mayEnter = true := by
  unfold Program.mayEnter; rw [h]
  simp only [h1, h2]
  have e : stripLifts liftWords (w3 :: x) = ([], w3 :: x) := by kernel_rfl
  simp only [e, h3]
  rfl
theorem behind : behindMainWord (wordsSigns Try.checked.prog.initOrder.toList) = w3 :: wordsSigns w4 := (congrArg behindMainWord words).trans (b _)
theorem enters : Try.checked.prog.mayEnter = true := enter_of behind (by kernel_rfl) (by kernel_rfl) (by kernel_rfl)
theorem lifts : Try.checked.prog.liftsFinal = false := lifts_of behind
theorem makes : Try.checked.prog.make = some .cut := make_of behind

end Go.Proofs.Ytpieaeokbblflaa
