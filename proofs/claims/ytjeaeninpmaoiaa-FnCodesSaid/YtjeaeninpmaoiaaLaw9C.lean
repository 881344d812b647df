/- What FnCodes asks of a code, in one; conditions: none. -/
import Derived.Test.YtjeaeninpmaoiaaLaw9
namespace Go.Proofs.Ytjeaeninpmaoiaa
open Go.RowKit

/-- all that the law FnCodes uses of a good code -/
structure CodesF (N : Nat) (xs S E : List Int) (Gs : List (Int × Int)) (T TB TM : Int) : Prop where
  hS : S = scoL (N : Int) xs
  hE : E = scoL (N : Int) (bestL leaV (N : Int))
  hG : Gs = guessL (N : Int) xs
  hT : T = totF (N : Int) xs
  hTB : TB = totF (N : Int) (bestL totV (N : Int))
  hTM : TM = totF (N : Int) (okL (inB 1 3 (N : Int)) (mapR (majF (N : Int).toNat) (2 ^ (N : Int).toNat)))
  lS : S.length = N
  lE : E.length = N
  lG : Gs.length = N
  gS : ∀ k (h : k < S.length), S[k] = scoreF xs k
  gG : ∀ k (h : k < Gs.length), Gs[k] = guessP xs k
  sum : S.sum = T
  top : T ≤ TB
  same : TM = TB
  low : minF S N ≤ minF E N
  bS : ∀ x ∈ S, -1000000 ≤ x ∧ x ≤ 1000000
  cP : codeB (N : Int) (bestL totV (N : Int)) = true
  cQ : codeB (N : Int) (bestL leaV (N : Int)) = true
  cR : codeB (N : Int) (okL (inB 1 3 (N : Int)) (mapR (majF (N : Int).toNat) (2 ^ (N : Int).toNat))) = true
  n13 : 1 ≤ N ∧ N ≤ 3
  l8 : xs.length ≤ 8
  l0 : 0 < xs.length
  x01 : ∀ k, k < xs.length → xs.getD k 0 = 0 ∨ xs.getD k 0 = 1
theorem codes_facts {N : Nat} {xs : List Int} (hcc : codeB (N : Int) xs = true) : ∃ S E Gs T TB TM, CodesF N xs S E Gs T TB TM := by
  obtain ⟨hn13, hl8, hlen, h01⟩ := codeB_yes hcc
  have hin : inB 1 3 (N : Int) = true := inB_iff.2 hn13
  have hNn : (N : Int).toNat = N := by omega
  have fb1 := best_top totV hcc
  have fb2 := maj_best hin
  have fb3 := best_top leaV hcc
  have cP := best_code totV hin
  have cQ := best_code leaV hin
  have cR : codeB (N : Int) (okL (inB 1 3 (N : Int)) (mapR (majF (N : Int).toNat) (2 ^ (N : Int).toNat))) = true := by rw [hin]; exact maj_code hin
  have tP : totF (N : Int) (bestL totV (N : Int)) = totV (N : Int).toNat (bestL totV (N : Int)) := if_pos cP
  have tR : totF (N : Int) (okL (inB 1 3 (N : Int)) (mapR (majF (N : Int).toNat) (2 ^ (N : Int).toNat))) = totV (N : Int).toNat (mapR (majF (N : Int).toNat) (2 ^ (N : Int).toNat)) := by
    unfold totF; rw [if_pos cR, hin]; rfl
  have tX : totF (N : Int) xs = totV (N : Int).toNat xs := if_pos hcc
  have eS : scoL (N : Int) xs = mapR (scoreF xs) N := by simp [scoL, hcc, scoL.okL']
  have eE : scoL (N : Int) (bestL leaV (N : Int)) = mapR (scoreF (bestL leaV (N : Int))) N := by simp [scoL, cQ, scoL.okL']
  have eG : guessL (N : Int) xs = mapR (guessP xs) N := by simp [guessL, hcc]
  refine ⟨_, _, _, _, _, _, rfl, rfl, rfl, rfl, rfl, rfl, by rw [eS, mapR_len], by rw [eE, mapR_len], by rw [eG, mapR_len], fun k h => ?_, fun k h => ?_, ?_, by omega, by omega, ?_, ?_, cP, cQ, cR, by omega, hl8, by rw [hlen]; exact Nat.pow_pos (by decide), fun k hk => ?_⟩
  · simp only [eS, mapR_get]
  · simp only [eG, mapR_get]
  · rw [eS, tX, hNn]; rfl
  · rw [hNn] at fb3
    have key : ∀ ys, leaV N ys = minF (mapR (scoreF ys) N) N := fun ys => by unfold leaV leastL; rw [mapR_len]
    rw [eS, eE, ← key, ← key]
    exact fb3
  · intro x hx
    have := scores_le xs N hl8 x (by rw [← eS]; exact hx)
    omega
  · have := h01 k hk
    simpa [List.getD, hk] using this
end Go.Proofs.Ytjeaeninpmaoiaa
