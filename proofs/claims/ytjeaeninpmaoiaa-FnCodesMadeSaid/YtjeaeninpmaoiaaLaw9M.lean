/- What FnCodesMade asks of codes; conditions: none. -/
import Derived.Test.YtjeaeninpmaoiaaLaw9
namespace Go.Proofs.Ytjeaeninpmaoiaa
open Go.RowKit

theorem sco_len {n : Int} {N : Nat} (hn : n = (N : Int)) {xs : List Int} (h : codeB n xs = true) : (scoL n xs).length = N ∧ ∀ k (hk : k < (scoL n xs).length), (scoL n xs)[k] = scoreF xs k := by
  have e : scoL n xs = mapR (scoreF xs) N := by subst hn; simp [scoL, h, scoL.okL']
  rw [e]
  exact ⟨mapR_len _ _, fun k hk => mapR_get _ _ _ hk⟩
theorem bit_facts {N I : Nat} (h : bitOk (N : Int) (I : Int) = true) : (1 ≤ N ∧ N ≤ 3 ∧ I < N) ∧ codeB (N : Int) (okL true (mapR (bitAt (I : Int).toNat) (2 ^ (N : Int).toNat))) = true ∧
    (scoL (N : Int) (okL true (mapR (bitAt (I : Int).toNat) (2 ^ (N : Int).toNat)))).length = N ∧
    ∀ k (hk : k < (scoL (N : Int) (okL true (mapR (bitAt (I : Int).toNat) (2 ^ (N : Int).toNat)))).length), (scoL (N : Int) (okL true (mapR (bitAt (I : Int).toNat) (2 ^ (N : Int).toNat))))[k] = if k = I then ((2 ^ N : Nat) : Int) else ((2 ^ (N - 1) : Nat) : Int) := by
  have hb := bitOk_iff.1 h
  have hn := inB_iff.1 hb.1
  have hc := bit_code h
  have e : okL true (mapR (bitAt (I : Int).toNat) (2 ^ (N : Int).toNat)) = mapR (bitAt I) (2 ^ N) := by simp [okL]
  have e2 : mapR (bitAt (I : Int).toNat) (2 ^ (N : Int).toNat) = mapR (bitAt I) (2 ^ N) := by simp
  rw [e]
  rw [e2] at hc
  obtain ⟨l1, l2⟩ := sco_len rfl hc
  refine ⟨by omega, hc, l1, fun k hk => ?_⟩
  rw [l2 k hk, bit_scores N (by omega) (by omega) I (by omega) k (by omega)]
  split <;> simp
theorem all_facts {N : Nat} (h : inB 1 3 (N : Int) = true) : sharedB (N : Int) (allBits N N) = true ∧ (sharedL (N : Int) (allBits N N)).length = N ∧
    ∀ k (hk : k < (sharedL (N : Int) (allBits N N)).length), (sharedL (N : Int) (allBits N N))[k] = sumS (allBits N N) 0 N := by
  have hn := inB_iff.1 h
  have hs : sharedB (N : Int) (allBits N N) = true := all_shared h
  have e : sharedL (N : Int) (allBits N N) = mapR (fun j => sumS (allBits N N) j N) N := by
    unfold sharedL accL
    rw [if_pos hs]
    simp [allBits, mapR_len]
  rw [e]
  refine ⟨hs, mapR_len _ _, fun k hk => ?_⟩
  rw [mapR_get]
  exact all_sums N (by omega) (by omega) k (by simpa [mapR_len] using hk)
theorem par_facts {M : Nat} (h : inB 1 3 (M : Int) = true) : codeB (M : Int) (okL true (mapR (parF (M : Int).toNat) (2 ^ (M : Int).toNat))) = true ∧
    (scoL (M : Int) (okL true (mapR (parF (M : Int).toNat) (2 ^ (M : Int).toNat)))).length = M ∧
    (1 < M → ∀ k (hk : k < (scoL (M : Int) (okL true (mapR (parF (M : Int).toNat) (2 ^ (M : Int).toNat)))).length), (scoL (M : Int) (okL true (mapR (parF (M : Int).toNat) (2 ^ (M : Int).toNat))))[k] = ((2 ^ (M - 1) : Nat) : Int)) := by
  have hn := inB_iff.1 h
  have hc := par_code h
  have e : okL true (mapR (parF (M : Int).toNat) (2 ^ (M : Int).toNat)) = mapR (parF M) (2 ^ M) := by simp [okL]
  have e2 : mapR (parF (M : Int).toNat) (2 ^ (M : Int).toNat) = mapR (parF M) (2 ^ M) := by simp
  rw [e]
  rw [e2] at hc
  obtain ⟨l1, l2⟩ := sco_len rfl hc
  refine ⟨hc, l1, fun h1 k hk => ?_⟩
  rw [l2 k hk, par_scores M (by omega) h1 k (by omega)]
  simp
theorem totF_le {n : Int} {xs : List Int} (h : codeB n xs = true) : 0 ≤ totF n xs ∧ totF n xs ≤ 48 := by
  obtain ⟨hn, hl, -, -⟩ := codeB_yes h
  unfold totF
  rw [if_pos h]
  have key : ∀ m : Nat, 0 ≤ (mapR (scoreF xs) m).sum ∧ (mapR (scoreF xs) m).sum ≤ 16 * m := by
    intro m
    induction m with
    | zero => simp [mapR]
    | succ m ih =>
      have := scoreF_le xs m hl
      rw [mapR_succ, List.sum_append]
      simp only [List.sum_cons, List.sum_nil]
      omega
  have := key n.toNat
  omega
theorem shared_facts {n : Int} {cs : List (List Int)} (h : sharedB n cs = true) : inB 1 3 n = true ∧ cs.length ≤ 1000 ∧ (∀ k (hk : k < cs.length), codeB n cs[k] = true) ∧ codeB n (bestL totV n) = true ∧
    (sharedL n cs).sum = totS n cs cs.length ∧ totS n cs cs.length ≤ cs.length * totF n (bestL totV n) ∧ (∀ k, k ≤ cs.length → 0 ≤ totS n cs k ∧ totS n cs k ≤ 48 * k) ∧
    (∀ x ∈ sharedL n cs, -1000000 ≤ x ∧ x ≤ 1000000) ∧ (sharedL n cs).length ≤ 1000 := by
  have h2 := h
  simp only [sharedB, Bool.and_eq_true, inB_iff, List.all_eq_true] at h2
  obtain ⟨hn, hl, hc⟩ := h2
  have hin : inB 1 3 n = true := inB_iff.2 hn
  have eL : sharedL n cs = mapR (fun j => sumS cs j cs.length) n.toNat := by
    unfold sharedL accL
    rw [if_pos h]
    simp
  refine ⟨hin, by omega, fun k hk => hc _ (List.getElem_mem hk), best_code totV hin, ?_, tot_top hc _ (Nat.le_refl _), fun k hk => ?_, fun x hx => ?_, ?_⟩
  · rw [eL]; exact (tot_shared hc _ (Nat.le_refl _)).symm
  · induction k with
    | zero => simp [totS]
    | succ k ih =>
      have i := ih (by omega)
      have e : cs.getD k [] = cs[k] := by simp [List.getD, show k < cs.length by omega]
      have b := totF_le (hc _ (List.getElem_mem (show k < cs.length by omega)))
      simp only [totS, e]
      omega
  · rw [eL] at hx
    obtain ⟨j, hj, rfl⟩ := List.getElem_of_mem hx
    rw [mapR_get]
    have := sumS_le cs j cs.length (Nat.le_refl _) (fun i hi _ => (codeB_yes (hc _ (List.getElem_mem hi))).2.1)
    omega
  · rw [eL, mapR_len]; omega
end Go.Proofs.Ytjeaeninpmaoiaa
