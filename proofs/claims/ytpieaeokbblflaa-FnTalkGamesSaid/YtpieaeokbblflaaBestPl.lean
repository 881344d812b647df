/- The best play of a game: the program's side, as far as its score; conditions: none. -/
import Derived.Test.YtpieaeokbblflaaScoreG
import Derived.Test.YtpieaeokbblflaaPlays
namespace Go.Proofs.Ytpieaeokbblflaa
open Go.RowKit

def bpA (n code i : Nat) : Nat := nb (n - 1 - i) code
def bpB (n X code i : Nat) : Nat := nb (n - 1 - (X + i)) code
/-- what the play with a place in the order wins -/
def bpW (r : GameD) (X Y code : Nat) : Int := playW r Y (bpA (X + Y) code) (bpB (X + Y) X code) X

set_option maxRecDepth 100000 in
set_option maxHeartbeats 4000000 in
theorem c_impl_BestPlay (v : Value) (r : GameD) (w : World) (h : GameR w v r) :
    Calls Try.prog 33 #[v] w fun e w' => (∃ v' s, e = .returned (.tuple #[v', .int .i64 s, .bool (gameB r)]) ∧ (gameB r = false → s = 0) ∧ (gameB r = true → ∀ X Y, GameOk r X Y → ∃ code, s = bpW r X Y code)) ∧ Below w.heap.size w w' := by
  have h2 := h
  obtain ⟨v2, v3, rfl, hp, hr⟩ := id h
  obtain ⟨a2, k2, rfl, l2, -⟩ := hp.out
  obtain ⟨a3, k3, rfl, l3⟩ := hr.out
  have hA := (Below.refl w.heap.size w).alloc (Nat.le_refl _) (.cells #[.int .i64 r.x, .int .i64 r.y, .slice a2 r.p.length k2, .slice a3 r.r.length k3] 46)
  have pB : (w.alloc (.cells #[.int .i64 r.x, .int .i64 r.y, .slice a2 r.p.length k2, .slice a3 r.r.length k3] 46)).heap[w.heap.size]? = some (.cells #[.int .i64 r.x, .int .i64 r.y, .slice a2 r.p.length k2, .slice a3 r.r.length k3] 46 (0, 0)) := heap_alloc_at rfl
  replace h2 := h2.below hA
  obtain ⟨⟨z0, z1, z2, z3⟩, -⟩ := blk4 pB
  cases hg : gameB r
  · skip
    replace hg := Lib.hid hg
    go_enter Try.func33, Try.ntmps33
    go_wp2_with fail
    refine (c_IsGame _ r _ h2).mono ?_
    rintro e w2 ⟨rfl, hB⟩
    rw [hg.out]
    go_wp2
    go_ret3
    exact ⟨⟨.slice none 0 0, 0, by rfl, fun _ => rfl, fun e => absurd e (by simp)⟩, bstep hA hB⟩
  obtain ⟨X, Y, gk⟩ := game_ok hg
  have bX := gk.bx
  have bY := gk.bY
  have eX := gk.hx
  have eY := gk.hy
  obtain ⟨M, hM⟩ : ∃ z, z = 2 ^ (X + Y) := ⟨_, rfl⟩
  have hM1 : 1 ≤ M := by rw [hM]; exact Nat.pow_pos (by decide)
  have hM2 : M ≤ 64 := by rw [hM]; exact (shl_one6 (X + Y) (by omega)).2.1
  have hlo : Hid (∀ c, 0 ≤ bpW r X Y c ∧ bpW r X Y c ≤ 891) := Lib.hid fun c => by have := playW_le gk (bpA (X + Y) c) (bpB (X + Y) X c) X; unfold bpW; omega
  have hu : Hid (∀ X' Y', GameOk r X' Y' → X' = X ∧ Y' = Y) := Lib.hid fun X' Y' g => by have a := g.hx; have b := g.hy; omega
  rw [eX, eY] at h h2 hA pB z0 z1 z2 z3 ⊢
  replace hg := Lib.hid hg
  replace gk := Lib.hid gk
  replace hM := Lib.hid hM
  replace eX := Lib.hid eX
  replace eY := Lib.hid eY
  go_enter Try.func33, Try.ntmps33
  go_wp2_with fail
  refine (c_IsGame _ r _ h2).mono ?_
  clear z0 z1 z2 z3
  rintro e w1 ⟨rfl, hB⟩
  rw [hg.out]
  replace hA := bstep hA hB
  replace h2 := h2.below hB
  replace pB := blk_later hB pB
  clear hB
  obtain ⟨⟨z0, z1, z2, z3⟩, -⟩ := blk4 pB
  go_wp2_with fail
  refine (c_plays X Y (by omega) (by omega) _).mono ?_
  clear z0 z1 z2 z3
  rintro e w3 ⟨vf, rfl, hvf, hB⟩
  replace hA := bstep hA hB
  replace h2 := h2.below hB
  replace pB := blk_later hB pB
  have hs1 := (Array.getElem?_eq_some_iff.1 pB).1
  have hf := hvf.rows
  rw [← hM.out] at hf
  have hfl := Lib.hid (show (mapR (plyL (X + Y)) M).length = M from mapR_len _ _)
  clear hvf hB
  obtain ⟨adf, capf, rfl, -⟩ := hf.out
  rw [hfl.out] at hf ⊢
  have hB := Below.refl w3.heap.size w3
  go_wp2_with fail
  go_loopw [5, 6, 19] (fun _ m i wr => ∃ k : Nat, k ≤ M ∧ i = .int .i64 k ∧ (∃ s : Int, m = .int .i64 s ∧ -1 ≤ s ∧ s ≤ 891 ∧ (s = -1 → k = 0) ∧ (s = -1 ∨ ∃ c, s = bpW r X Y c)) ∧ Below w3.heap.size w3 wr) (fun _ _ i _ => M - (intOf i).toNat)
  case atStart => exact ⟨0, Nat.zero_le _, rfl, ⟨-1, rfl, by omega, by omega, fun _ => rfl, Or.inl rfl⟩, hB⟩
  case round =>
    clear hB
    obtain ⟨k, hk, rfl, ⟨s, rfl, s1, s2, s3, s4⟩, hB⟩ := hrel
    obtain ⟨⟨z0, z1, z2, z3⟩, -⟩ := blk4 ((hB.block _ (by omega)).trans pB)
    by_cases hlt : k < M
    · have hd : decide ((k : Int) < (M : Int)) = true := by simp; omega
      obtain ⟨bl, off, ax, cx, e0, hb0, hc0, hi0⟩ := (hf.below hB).at k (by have := hfl.out; omega)
      subst e0
      have hxs : (mapR (plyL (X + Y)) M)[k]'(by have := hfl.out; omega) = plyL (X + Y) k := by simp [mapR]
      rw [hxs] at hc0 hi0
      have hpl := Lib.hid (show (plyL (X + Y) k).length = X + Y from mapR_len _ _)
      rw [hpl.out] at hc0 hi0
      clear hxs
      go_wp2_with fail
      refine (c_score _ _ r X Y (plyL (X + Y) k) (bpA (X + Y) k) (bpB (X + Y) X k) _ (h2.below hB) hi0 gk.out hpl.out (fun i h => by simp [plyL, mapR, bpA, bitAt, nb]) (fun i h => by simp [plyL, mapR, bpB, bitAt, nb]) (fun i => nb_le _ _) (fun i => nb_le _ _)).mono ?_
      rintro e w4 ⟨rfl, hB4⟩
      have hB5 := bstep hB hB4
      obtain ⟨p1, p2⟩ := hlo.out k
      rw [show playW r Y (bpA (X + Y) k) (bpB (X + Y) X k) X = bpW r X Y k from rfl]
      obtain ⟨sn, hsn⟩ : ∃ z, z = bpW r X Y k := ⟨_, rfl⟩
      rw [← hsn] at p1 p2 ⊢
      replace hsn := Lib.hid hsn
      by_cases hgt : s < sn
      · go_wp2_with fail
        go_roundw
        case rel => exact ⟨k + 1, by omega, by go_num, ⟨_, rfl, by omega, by omega, fun e => by omega, Or.inr ⟨k, hsn.out⟩⟩, hB5⟩
        case measure => simp [intOf]; omega
      · go_wp2_with fail
        go_roundw
        case rel => exact ⟨k + 1, by omega, by go_num, ⟨_, rfl, s1, s2, fun e => by omega, s4⟩, hB5⟩
        case measure => simp [intOf]; omega
    · obtain rfl : M = k := by omega
      go_wp2
      go_ret3
      exact ⟨⟨_, s, by rfl, fun e => absurd e (by simp), fun _ X' Y' g => by obtain ⟨rfl, rfl⟩ := hu.out X' Y' g; exact s4.resolve_left fun e => by have := s3 e; omega⟩, hA.trans (hB.mono (by omega))⟩
end Go.Proofs.Ytpieaeokbblflaa
