/- The table of needs: the reference's side, its helpers; conditions: none. -/
import Derived.Test.YtpieaeokbblflaaNeed
namespace Go.Proofs.Ytpieaeokbblflaa
open Go.RowKit

/-- the members of a set, below n -/
def memL (r : Nat) : Nat → List Int
  | 0 => []
  | n + 1 => if bitAt n r == 1 then memL r n ++ [(n : Int)] else memL r n
theorem memL_len (r : Nat) : ∀ n, (memL r n).length ≤ n
  | 0 => by simp [memL]
  | n + 1 => by
    have := memL_len r n
    unfold memL
    split <;> simp <;> omega
theorem memL_mem (r : Nat) : ∀ n, ∀ e ∈ memL r n, 0 ≤ e ∧ e < n
  | 0 => by simp [memL]
  | n + 1 => by
    intro e he
    unfold memL at he
    split at he
    · rcases List.mem_append.1 he with h | h
      · have := memL_mem r n e h; omega
      · simp at h; omega
    · have := memL_mem r n e he; omega
set_option maxRecDepth 100000 in
theorem memL_mask_all : ∀ n, n < 5 → ∀ r, r < 2 ^ n → maskN (memL r n) 0 = r := by decide +kernel
theorem memL_pos {n r : Nat} (hn : n ≤ 4) (hr : r < 2 ^ n) (h0 : 0 < r) : 0 < (memL r n).length := by
  rcases hq : memL r n with _ | ⟨x, l⟩
  · have := memL_mask_all n (by omega) r hr
    rw [hq] at this
    simp [maskN] at this
    omega
  · simp

set_option maxRecDepth 100000 in
theorem c_l8Members (n r : Nat) (w : World) (hn : n ≤ 4) (hr : r < 16) :
    Calls Try.prog 121 #[.int .i64 n, .int .i64 r] w fun e w' => ∃ v', e = .returned v' ∧ OwnI w' w.heap.size v' (memL r n) ∧ Below w.heap.size w w' := by
  go_enter Try.func121, Try.ntmps121
  go_wp2_with fail
  go_loopw [5, 6] (fun v i wr => ∃ k : Nat, k ≤ n ∧ i = .int .i64 k ∧ OwnI wr w.heap.size v (memL r k) ∧ Below w.heap.size w wr) (fun _ i _ => n - (intOf i).toNat)
  case atStart => exact ⟨0, Nat.zero_le _, rfl, own_empty _ _ (Nat.le_refl _), (Below.refl _ _).alloc (Nat.le_refl _) _⟩
  case round =>
    obtain ⟨k, hk, rfl, hown, hB⟩ := hrel
    have hsz := hB.size
    have hml := memL_len r k
    by_cases hlt : k < n
    · have hdk : decide ((k : Int) < (n : Int)) = true := by simp; omega
      have hE := and1_div r k (by omega)
      obtain ⟨bq, hbq⟩ : ∃ z, z = bitAt k r := ⟨_, rfl⟩
      rw [← hbq] at hE
      cases hb : (bq == 1)
      · have hs : Hid (memL r (k + 1) = memL r k) := Lib.hid (by rw [show memL r (k + 1) = if bitAt k r == 1 then memL r k ++ [(k : Int)] else memL r k from rfl, ← hbq, hb]; rfl)
        clear hbq
        go_wp2
        go_roundw
        case rel => first | exact ⟨k + 1, by omega, by go_num, by rw [hs.out]; exact hown, hB⟩ | ((repeat apply Exists.intro); exact ⟨⟨k + 1, by omega, rfl, by rw [hs.out]; exact hown, hB⟩, rfl⟩)
        case measure => simp [intOf]; omega
      · have hs : Hid (memL r (k + 1) = memL r k ++ [(k : Int)]) := Lib.hid (by rw [show memL r (k + 1) = if bitAt k r == 1 then memL r k ++ [(k : Int)] else memL r k from rfl, ← hbq, hb]; rfl)
        clear hbq
        go_wp2_with (at_builtin; refine wp_append_int _ _ rfl _ _ rfl w.heap.size _ _ rfl hown rfl (by first | rfl | simp) (by omega) hsz ?_; intro v' w1 hown1 _ hB1 _)
        rw [← hs.out] at hown1
        have hB2 := hB.trans hB1
        go_roundw
        case rel => first | exact ⟨k + 1, by omega, by go_num, hown1, hB2⟩ | ((repeat apply Exists.intro); exact ⟨⟨k + 1, by omega, rfl, hown1, hB2⟩, rfl⟩)
        case measure => simp [intOf]; omega
    · obtain rfl : k = n := by omega
      go_wp2
      go_ret
      exact ⟨_, rfl, hown, hB⟩

theorem plain_members {t : List (List Int)} (ht : taskB t = true) {R C : Nat} (hR : R < 2 ^ t.length) (hC : C < 2 ^ wid t) (hR0 : 0 < R) (hC0 : 0 < C) :
    decide (0 ≤ plainN t (memL R t.length) (memL C (wid t))) = plB t R C := by
  obtain ⟨hn, hm, -, -⟩ := taskB_yes ht
  have h1 := memL_pos hn.2 hR hR0
  have h2 := memL_pos hm.2 hC hC0
  have e := plB_eq ht (memL_mem R t.length) (memL_mem C (wid t)) h1 h2
  rw [memL_mask_all _ (by omega) _ hR, memL_mask_all _ (by omega) _ hC] at e
  rw [e]
  unfold plainN
  cases hp : plainS t (memL R t.length) (memL C (wid t))
  · rfl
  · have hf := (plain_has ht (memL_mem R t.length) (memL_mem C (wid t)) h1 h2).2 hp
    rw [if_pos rfl, hf]
    split <;> decide
end Go.Proofs.Ytpieaeokbblflaa
