/- How the program says where it may be entered: read off its head word by word, not by one great reckoning (that takes minutes and 10 GB where the head is long); conditions: none. -/
import Derived.Test.YtjeaeninpmaoiaaChecked
import Derived.JoinedOf
import Derived.RowKit
import Derived.Test.YtjeaeninpmaoiaaJ1
import Derived.ProofKit
import Derived.OpenShut
import Derived.Deep.Slices
import Derived.Deep.Matrix
import Derived.Test.YtjeaeninpmaoiaaJ12
namespace Go.Proofs.Ytjeaeninpmaoiaa
set_option maxRecDepth 100000

theorem words_cons (w r : List Char) (h : ∀ c ∈ w, c ≠ Char.ofNat 32) : wordsSigns (w ++ Char.ofNat 32 :: r) = w :: wordsSigns r := by
  induction w with
  | nil => simp [wordsSigns]
  | cons c w ih =>
    have h1 := h c (by simp)
    have h2 := ih fun d hd => h d (by simp [hd])
    rw [List.cons_append, wordsSigns, h2]
    simpa using h1
def w1 : List Char := [Char.ofNat 104, Char.ofNat 97, Char.ofNat 114, Char.ofNat 110, Char.ofNat 101, Char.ofNat 115, Char.ofNat 115]
def w2 : List Char := [Char.ofNat 51, Char.ofNat 57, Char.ofNat 51, Char.ofNat 51, Char.ofNat 57, Char.ofNat 48, Char.ofNat 97, Char.ofNat 97, Char.ofNat 55, Char.ofNat 52, Char.ofNat 48, Char.ofNat 50, Char.ofNat 97, Char.ofNat 55, Char.ofNat 48, Char.ofNat 48, Char.ofNat 53, Char.ofNat 50, Char.ofNat 102, Char.ofNat 99, Char.ofNat 52, Char.ofNat 97, Char.ofNat 99, Char.ofNat 97, Char.ofNat 102, Char.ofNat 49, Char.ofNat 99, Char.ofNat 102, Char.ofNat 55, Char.ofNat 102, Char.ofNat 52, Char.ofNat 98, Char.ofNat 98, Char.ofNat 56, Char.ofNat 51, Char.ofNat 54, Char.ofNat 48, Char.ofNat 53, Char.ofNat 53, Char.ofNat 97, Char.ofNat 52, Char.ofNat 98, Char.ofNat 48, Char.ofNat 101, Char.ofNat 52, Char.ofNat 48, Char.ofNat 57, Char.ofNat 52, Char.ofNat 57, Char.ofNat 99, Char.ofNat 51, Char.ofNat 52, Char.ofNat 98, Char.ofNat 48, Char.ofNat 50, Char.ofNat 52, Char.ofNat 57, Char.ofNat 99, Char.ofNat 48, Char.ofNat 102, Char.ofNat 49, Char.ofNat 51, Char.ofNat 101, Char.ofNat 52]
def w3 : List Char := [Char.ofNat 99, Char.ofNat 117, Char.ofNat 116]
def w4 : List Char := [Char.ofNat 97, Char.ofNat 116, Char.ofNat 32, Char.ofNat 108, Char.ofNat 111, Char.ofNat 111, Char.ofNat 112, Char.ofNat 46, Char.ofNat 101, Char.ofNat 120, Char.ofNat 97, Char.ofNat 109, Char.ofNat 112, Char.ofNat 108, Char.ofNat 101, Char.ofNat 47, Char.ofNat 103, Char.ofNat 48, Char.ofNat 49, Char.ofNat 49, Char.ofNat 52, Char.ofNat 49, Char.ofNat 47, Char.ofNat 108, Char.ofNat 97, Char.ofNat 119, Char.ofNat 115, Char.ofNat 46, Char.ofNat 70, Char.ofNat 110, Char.ofNat 67, Char.ofNat 111, Char.ofNat 100, Char.ofNat 101, Char.ofNat 115, Char.ofNat 77, Char.ofNat 97, Char.ofNat 100, Char.ofNat 101, Char.ofNat 32, Char.ofNat 108, Char.ofNat 111, Char.ofNat 111, Char.ofNat 112, Char.ofNat 46, Char.ofNat 101, Char.ofNat 120, Char.ofNat 97, Char.ofNat 109, Char.ofNat 112, Char.ofNat 108, Char.ofNat 101, Char.ofNat 47, Char.ofNat 103, Char.ofNat 48, Char.ofNat 49, Char.ofNat 49, Char.ofNat 52, Char.ofNat 49, Char.ofNat 47, Char.ofNat 108, Char.ofNat 97, Char.ofNat 119, Char.ofNat 115, Char.ofNat 46, Char.ofNat 70, Char.ofNat 110, Char.ofNat 67, Char.ofNat 111, Char.ofNat 100, Char.ofNat 101, Char.ofNat 115, Char.ofNat 32, Char.ofNat 108, Char.ofNat 111, Char.ofNat 111, Char.ofNat 112, Char.ofNat 46, Char.ofNat 101, Char.ofNat 120, Char.ofNat 97, Char.ofNat 109, Char.ofNat 112, Char.ofNat 108, Char.ofNat 101, Char.ofNat 47, Char.ofNat 103, Char.ofNat 48, Char.ofNat 49, Char.ofNat 49, Char.ofNat 52, Char.ofNat 49, Char.ofNat 47, Char.ofNat 108, Char.ofNat 97, Char.ofNat 119, Char.ofNat 115, Char.ofNat 46, Char.ofNat 70, Char.ofNat 110, Char.ofNat 66, Char.ofNat 111, Char.ofNat 120, Char.ofNat 67, Char.ofNat 111, Char.ofNat 100, Char.ofNat 101, Char.ofNat 115]
theorem words : wordsSigns Try.checked.prog.initOrder.toList = w1 :: w2 :: w3 :: wordsSigns w4 := by
  have e : Try.checked.prog.initOrder = String.ofList (w1 ++ Char.ofNat 32 :: (w2 ++ Char.ofNat 32 :: (w3 ++ Char.ofNat 32 :: w4))) := by
    have e1 : (w1 ++ Char.ofNat 32 :: (w2 ++ Char.ofNat 32 :: (w3 ++ Char.ofNat 32 :: w4))) = [Char.ofNat 104, Char.ofNat 97, Char.ofNat 114, Char.ofNat 110, Char.ofNat 101, Char.ofNat 115, Char.ofNat 115, Char.ofNat 32, Char.ofNat 51, Char.ofNat 57, Char.ofNat 51, Char.ofNat 51, Char.ofNat 57, Char.ofNat 48, Char.ofNat 97, Char.ofNat 97, Char.ofNat 55, Char.ofNat 52, Char.ofNat 48, Char.ofNat 50, Char.ofNat 97, Char.ofNat 55, Char.ofNat 48, Char.ofNat 48, Char.ofNat 53, Char.ofNat 50, Char.ofNat 102, Char.ofNat 99, Char.ofNat 52, Char.ofNat 97, Char.ofNat 99, Char.ofNat 97, Char.ofNat 102, Char.ofNat 49, Char.ofNat 99, Char.ofNat 102, Char.ofNat 55, Char.ofNat 102, Char.ofNat 52, Char.ofNat 98, Char.ofNat 98, Char.ofNat 56, Char.ofNat 51, Char.ofNat 54, Char.ofNat 48, Char.ofNat 53, Char.ofNat 53, Char.ofNat 97, Char.ofNat 52, Char.ofNat 98, Char.ofNat 48, Char.ofNat 101, Char.ofNat 52, Char.ofNat 48, Char.ofNat 57, Char.ofNat 52, Char.ofNat 57, Char.ofNat 99, Char.ofNat 51, Char.ofNat 52, Char.ofNat 98, Char.ofNat 48, Char.ofNat 50, Char.ofNat 52, Char.ofNat 57, Char.ofNat 99, Char.ofNat 48, Char.ofNat 102, Char.ofNat 49, Char.ofNat 51, Char.ofNat 101, Char.ofNat 52, Char.ofNat 32, Char.ofNat 99, Char.ofNat 117, Char.ofNat 116, Char.ofNat 32, Char.ofNat 97, Char.ofNat 116, Char.ofNat 32, Char.ofNat 108, Char.ofNat 111, Char.ofNat 111, Char.ofNat 112, Char.ofNat 46, Char.ofNat 101, Char.ofNat 120, Char.ofNat 97, Char.ofNat 109, Char.ofNat 112, Char.ofNat 108, Char.ofNat 101, Char.ofNat 47, Char.ofNat 103, Char.ofNat 48, Char.ofNat 49, Char.ofNat 49, Char.ofNat 52, Char.ofNat 49, Char.ofNat 47, Char.ofNat 108, Char.ofNat 97, Char.ofNat 119, Char.ofNat 115, Char.ofNat 46, Char.ofNat 70, Char.ofNat 110, Char.ofNat 67, Char.ofNat 111, Char.ofNat 100, Char.ofNat 101, Char.ofNat 115, Char.ofNat 77, Char.ofNat 97, Char.ofNat 100, Char.ofNat 101, Char.ofNat 32, Char.ofNat 108, Char.ofNat 111, Char.ofNat 111, Char.ofNat 112, Char.ofNat 46, Char.ofNat 101, Char.ofNat 120, Char.ofNat 97, Char.ofNat 109, Char.ofNat 112, Char.ofNat 108, Char.ofNat 101, Char.ofNat 47, Char.ofNat 103, Char.ofNat 48, Char.ofNat 49, Char.ofNat 49, Char.ofNat 52, Char.ofNat 49, Char.ofNat 47, Char.ofNat 108, Char.ofNat 97, Char.ofNat 119, Char.ofNat 115, Char.ofNat 46, Char.ofNat 70, Char.ofNat 110, Char.ofNat 67, Char.ofNat 111, Char.ofNat 100, Char.ofNat 101, Char.ofNat 115, Char.ofNat 32, Char.ofNat 108, Char.ofNat 111, Char.ofNat 111, Char.ofNat 112, Char.ofNat 46, Char.ofNat 101, Char.ofNat 120, Char.ofNat 97, Char.ofNat 109, Char.ofNat 112, Char.ofNat 108, Char.ofNat 101, Char.ofNat 47, Char.ofNat 103, Char.ofNat 48, Char.ofNat 49, Char.ofNat 49, Char.ofNat 52, Char.ofNat 49, Char.ofNat 47, Char.ofNat 108, Char.ofNat 97, Char.ofNat 119, Char.ofNat 115, Char.ofNat 46, Char.ofNat 70, Char.ofNat 110, Char.ofNat 66, Char.ofNat 111, Char.ofNat 120, Char.ofNat 67, Char.ofNat 111, Char.ofNat 100, Char.ofNat 101, Char.ofNat 115] := by kernel_rfl
    rw [e1]; exact (by kernel_rfl : _ = _)
  rw [e, String.toList_ofList, words_cons _ _ (by decide), words_cons _ _ (by decide), words_cons _ _ (by decide)]
theorem b (x : List (List Char)) : behindMainWord (w1 :: w2 :: w3 :: x) = w3 :: x := by kernel_rfl
theorem make_of {P : Program} {x : List (List Char)} (h : behindMainWord (wordsSigns P.initOrder.toList) = w3 :: x) : P.make = some .cut := by
  unfold Program.make; rw [h]; rfl
theorem lifts_of {P : Program} {x : List (List Char)} (h : behindMainWord (wordsSigns P.initOrder.toList) = w3 :: x) : P.liftsFinal = false := by
  unfold Program.liftsFinal Program.headLifts; rw [h]; kernel_rfl
theorem enter_of {P : Program} {x : List (List Char)} (h : behindMainWord (wordsSigns P.initOrder.toList) = w3 :: x) (h1 : P.laysLater = false) (h2 : P.bearsReflect = false) (h3 : P.doorFits [] = true) : P.mayEnter = true := by
  unfold Program.mayEnter; rw [h]
  simp only [h1, h2]
  have e : stripLifts liftWords (w3 :: x) = ([], w3 :: x) := by kernel_rfl
  simp only [e, h3]
  rfl
theorem behind : behindMainWord (wordsSigns Try.checked.prog.initOrder.toList) = w3 :: wordsSigns w4 := (congrArg behindMainWord words).trans (b _)
theorem enters : Try.checked.prog.mayEnter = true := enter_of behind (by kernel_rfl) (by kernel_rfl) (by kernel_rfl)
theorem lifts : Try.checked.prog.liftsFinal = false := lifts_of behind
theorem makes : Try.checked.prog.make = some .cut := make_of behind

end Go.Proofs.Ytjeaeninpmaoiaa
/- An argument that came in, as the walks read it: a slice of integers; conditions: none. -/
namespace Go.Proofs.Ytjeaeninpmaoiaa
open Go.RowKit Go.ChangeShapes Go.WideShapes Go.ChangeAt Go.Deep
variable {H : Type} {enc : TypeId × Value → H} {W : World} {base : Nat}

theorem laidOut : laidOutB Try.prog = true := by kernel_rfl
theorem own : ownKnob Try.prog.godebug = none := by kernel_rfl
theorem cells_int : Try.prog.cellsOf 3 = 1 := by kernel_rfl

/-- an address at which something reads has no spot -/
theorem addr_cell {w : World} {a : Addr} {j : Nat} {v : Value} (h0 : ∃ u, w.cell? (a.add 0) = some u) (h : w.cell? (a.add j) = some v) : ∃ b off, a = ⟨b, off, none⟩ ∧ b < w.heap.size ∧ w.cell? ⟨b, off + j, none⟩ = some v := by
  obtain ⟨u, hu⟩ := h0
  obtain ⟨b, off, spot⟩ := a
  cases spot with
  | some s =>
    unfold Addr.add World.cell? at hu
    split at hu <;> simp at hu
  | none =>
    rw [Addr.add_lit] at h
    exact ⟨b, off, rfl, World.block_lt_of_cell? w _ h, h⟩

set_option maxRecDepth 100000 in
theorem ints_trod {fuel : Nat} {v : Value} {x : DataW H × List MemPlace} (hf : DataW.trod enc Try.prog W base (fun _ => true) true fuel 26 [v] = some x) : ∃ xs, Ints W v xs := by
  rcases open_ints Try.underlying26 Try.underlying3 cells_int hf with ⟨hcs, _⟩ | ⟨x, len, cap, zs, hcs, _, hl, hm, hz, _, hcell, hwz⟩
  · simp only [List.cons.injEq, and_true] at hcs
    subst hcs
    exact ⟨[], none, 0, rfl, ⟨by simp, by omega⟩, fun j u hu => by simp at hu⟩
  · simp only [List.cons.injEq, and_true] at hcs
    subst hcs
    have hz' : zs.length = cap := by simpa using hz
    have hlen : (zs.take len).length = len := by simp; omega
    have hM : cap ≤ 9223372036854775807 := by unfold maxLen at hm; omega
    refine ⟨zs.take len, some x, cap, by simp; omega, ⟨by simp; omega, hM⟩, fun j u hu => ?_⟩
    have hj : j < len := by
      have := (List.getElem?_eq_some_iff.1 hu).1
      simp at this
      omega
    obtain ⟨b, off, rfl, hb, hc⟩ := addr_cell ⟨_, hcell 0 (by omega)⟩ (hcell j (by omega))
    refine ⟨b, off, rfl, hb, hc.trans ?_⟩
    rw [← hu]
    simp [List.getD, hj, List.getElem?_eq_getElem (show j < zs.length by omega)]

set_option maxRecDepth 100000 in
theorem ints_in {v : Value} {d : DataW H} {p : List MemPlace} (hok : Value.okWide Try.prog W .any base 26 v) (h : DataW.Trod enc Try.prog W 0 (fun _ => true) true 26 v d p) :
    ∃ xs, Ints W v xs := by
  obtain ⟨a, len, cap, rfl⟩ := okWide_slice Try.underlying26 hok
  obtain ⟨fuel, hf⟩ := h
  exact ints_trod (by simpa [Value.cells] using hf)

end Go.Proofs.Ytjeaeninpmaoiaa
/- An argument that came in: a slice of bytes; conditions: none. -/
namespace Go.Proofs.Ytjeaeninpmaoiaa
open Go.RowKit Go.ChangeShapes Go.WideShapes Go.ChangeAt Go.Deep
variable {H : Type} {enc : TypeId × Value → H} {W : World} {base : Nat}

theorem cells_u8 : Try.prog.cellsOf 5 = 1 := by kernel_rfl
theorem u8_wf {z : Int} (h : (Lit.int .u8 z).wf = true) : 0 ≤ z ∧ z < 256 := by
  simp only [Lit.wf, IntKind.min, IntKind.max, IntKind.signed, IntKind.bits, Bool.and_eq_true] at h
  simp at h
  omega
set_option maxRecDepth 100000 in
theorem bytes_trod {fuel : Nat} {v : Value} {x : DataW H × List MemPlace} (hf : DataW.trod enc Try.prog W base (fun _ => true) true fuel 22 [v] = some x) : ∃ n, BytesV W v n := by
  rcases open_ints Try.underlying22 Try.underlying5 cells_u8 hf with ⟨hcs, _⟩ | ⟨x, len, cap, zs, hcs, _, hl, hm, hz, _, hcell, hwz⟩
  · simp only [List.cons.injEq, and_true] at hcs
    subst hcs
    exact ⟨0, none, 0, rfl, by omega, by omega, fun i hi => by omega⟩
  · simp only [List.cons.injEq, and_true] at hcs
    subst hcs
    have hz' : zs.length = cap := by simpa using hz
    have hM : cap ≤ 9223372036854775807 := by unfold maxLen at hm; omega
    refine ⟨len, some x, cap, rfl, ⟨hl, hM⟩, by omega, fun i hi => ?_⟩
    obtain ⟨b, off, rfl, hb, hc⟩ := addr_cell ⟨_, hcell 0 (by omega)⟩ (hcell i (by omega))
    have hi' : i < zs.length := by omega
    have hw := u8_wf (hwz _ (List.getElem_mem hi'))
    exact ⟨b, off, zs[i], rfl, hb, by rw [hc]; simp [List.getD, hi'], hw⟩
set_option maxRecDepth 100000 in
theorem bytes_in {v : Value} {d : DataW H} {p : List MemPlace} (hok : Value.okWide Try.prog W .any base 22 v) (h : DataW.Trod enc Try.prog W 0 (fun _ => true) true 22 v d p) :
    ∃ n, BytesV W v n := by
  obtain ⟨a, len, cap, rfl⟩ := okWide_slice Try.underlying22 hok
  obtain ⟨fuel, hf⟩ := h
  exact bytes_trod (by simpa [Value.cells] using hf)
end Go.Proofs.Ytjeaeninpmaoiaa
